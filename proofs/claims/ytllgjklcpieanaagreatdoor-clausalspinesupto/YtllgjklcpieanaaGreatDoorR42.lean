/- A part of the proof of clausalSpinesProved. -/
import Derived.Test.YtllgjklcpieanaaGreatDoorR35
import Derived.Test.YtllgjklcpieanaaGreatDoorR37
import Derived.Test.YtllgjklcpieanaaGreatDoorR12
import Derived.Test.YtllgjklcpieanaaGreatDoorR36
import Derived.Test.YtllgjklcpieanaaGreatDoorR41
import Derived.Test.YtllgjklcpieanaaGreatDoorR17
set_option linter.unusedVariables false
set_option linter.unusedSimpArgs false
set_option maxRecDepth 100000
section
namespace Go.Vx
open Go.Proofs
abbrev eS:Str:={ data:=#[] }
def zTm:Tm:=.mk 0 0 eS []
abbrev SpS:=List Tu×List Tm×List Pf
def YX(k:Int)(st:SpS):nM SpS :=
 if k=1\/k=2 then some (st.1++[.mk k zTm []],st.2.1,st.2.2)
 else if k=3 then(match st.2.1 with|[]=>none|t::ts=>some (st.1++[.mk k t []],ts,st.2.2))
 else if k=4\/k=5 then(match st.2.2 with|[]=>none|p::ps=>some (st.1++[.mk k zTm [p]],st.2.1,ps))
 else none
def Up:List Int->SpS->nM SpS
 | [],st=>some st
 | k::r,st=>(YX k st).bind (Up r)
def Mo:nM SpS->List Tu×Int
 | some (o,[],[])=>(o,0)
 | _=>([],1)
def TN(path:List Int)(ts:List Tm)(ps:List Pf):List Tu×Int:=Mo (Up path ([],ts,ps))
def Elw(es' es:List (List AV)):Prop:=es'.length=es.length/\∀ (i:Nat) (e' e:List AV),es'[i]?=some e'->es[i]?=some e->Wkl e' e
theorem Elw.nil:Elw [] []:=⟨rfl,fun i a b h=>by simp at h⟩
theorem Elw.snoc{es' es:List (List AV)}(h:Elw es' es){e' e:List AV}(k:Wkl e' e):Elw (es'++[e']) (es++[e]):=by
 refine⟨by simp[h.1],fun i a b ha hb=>?_⟩
 by_cases hi:i<es'.length
 ·rw[jU hi] at ha
  rw[jU yk] at hb
  exact h.2 i a b ha hb
 ·have hl:=(List.getElem?_eq_some_iff.1 ha).1
  rw[ii,iq] at hl
  have e1:i=es'.length:=by omega
  subst e1
  simp at ha
  rw[h.1] at hb
  simp at hb
  subst ha;subst hb;exact k
theorem Elw.wk{es' es:List (List AV)}(h:Elw es' es)(sz:Nat):Wk (.list .none sz es') (.list .none sz es):=.elems h.1 h.2
theorem dO(l:List Tu)(x:Tu):dM (l++[x])=dM l++[x.emb]:=by simp[eu]
theorem Cc(c:Zr)(ts:List Tm)(ps:List Pf):Pur nC 10 [.agg c.emb,.list .none 4 (cJ ts),.list .none 10 (dB ps)] (.tup [.list .none 6 (dM (TN c.path ts ps).1),vi (TN c.path ts ps).2]):=by
 intro σ
 refine Zh.nodup xy (fun hnd=>?_)
 refine Zh.ok xy (fun hok=>?_)
 have hlp:=((hok _ ir).agg (c:=.list .none 1 (Zu c.path)) xK).len
 rw[Z9] at hlp
 clear hok
 refine uI fun hw=>?_
 unfold TN
 obtain⟨r0,hr0⟩:∃ r,r=Up c.path ([],ts,ps):=⟨_,rfl⟩
 rw[<- hr0]
 simp only[Zr.emb]
 generalize c.path=path at hlp hr0 ⊢
 refine Zb [] [(13,6,2),(18,7,2)] Tryz.func10 rfl xy ?_;rw[Tryz.ntmps10,Tryz.results10]
 refine wv ?_
 refine Zp (mu:=[]) (dr:=[(13,6,2),(18,7,2)]) [1,2,6,7,8,10,11,15,16,17,18,19,20,21,22,23,24,25,26,27,28,29,30,31,32,33,34,35,36,37,38,39,40,41,42,43,44,45,46,47,48,49,50,51,52,53] (fun x:Nat×AV×List Tm×List Pf×Store=>[(15,vi x.1),(8,x.2.1),(1,.list .none 4 (cJ x.2.2.1)),(2,.list .none 10 (dB x.2.2.2.1))]) (fun x=>x.2.2.2.2)
  (fun x=>x.1<=path.length/\(∃ out es,r0=Up (path.drop x.1) (out,x.2.2.1,x.2.2.2.1)/\LV σ x.2.2.2.2 x.2.1 6 es/\Elw es (dM out)/\out.length<=x.1)/\Has σ x.2.2.2.2) (fun x=>path.length-x.1)
  (0,.list .full 0 [],ts,ps,σ) xy ⟨by simp only;omega,⟨[],[],hr0,LV.nil _ _ _,Elw.nil,kO _⟩,.refl _⟩ ⟨.refl _,.refl _,.refl _,.refl _,trivial⟩ (.refl _) ?_
 rintro⟨i,v,us,qs,S⟩ ⟨i1,⟨out,es,r1,hv,hE,ho⟩,hH⟩
 simp only at i1 r1 hv hE ho hH
 refine wv ?_
 refine⟨fun h1=>⟨by omega,h1,fun c hc=>?_⟩,fun h1=>?_⟩
 ·rw[iF] at hc
  obtain⟨k,hk,rfl⟩:=Yi hc
  have hd:path.drop i=k::path.drop (i+1):=by
   obtain⟨hl,e⟩:=List.getElem?_eq_some_iff.1 hk
   rw[mw hl,e]
  rw[hd,Up] at r1
  refine uw ?_
  intro b11 hb
  by_cases h12:k=1\/k=2
  ·have e1:YX k (out,us,qs)=some (out++[.mk k zTm []],us,qs):=by unfold YX;rw[gZ h12]
   rw[e1,jk] at r1
   rcases h12 with rfl|rfl
   ·refine uw ?_
    refine⟨rfl,(hv.cons hb _).append rfl xj yL rfl xf (hH.cons _) (fun v' S' hv' hkp hS'=>?_)⟩
    refine vh ?_
    rw[hw i xh]
    exact .mk (i+1,v',us,qs,S') ⟨by simp only;omega,⟨out++[.mk 1 zTm []],_,r1,hv',by rw[dO];exact hE.snoc ⟨.refl _,.refl _,.refl _,.refl _,.nilN _ _,.nilN _ _,trivial⟩,by simp only[ii,iq];omega⟩,hS'⟩ xS ⟨.refl _,.refl _,.refl _,.refl _,trivial⟩ yV (.refl _)
   ·refine uw ?_
    refine⟨rfl,(hv.cons hb _).append rfl xj yL rfl xf (hH.cons _) (fun v' S' hv' hkp hS'=>?_)⟩
    refine vh ?_
    rw[hw i xh]
    exact .mk (i+1,v',us,qs,S') ⟨by simp only;omega,⟨out++[.mk 2 zTm []],_,r1,hv',by rw[dO];exact hE.snoc ⟨.refl _,.refl _,.refl _,.refl _,.nilN _ _,.nilN _ _,trivial⟩,by simp only[ii,iq];omega⟩,hS'⟩ xS ⟨.refl _,.refl _,.refl _,.refl _,trivial⟩ yV (.refl _)
  have z1:(k=1)=False:=iU fun e=>h12 (.inl e)
  have z2:(k=2)=False:=iU fun e=>h12 (.inr e)
  by_cases h3:k=3
  ·subst h3
   cases us with
   | nil =>
     have e1:YX 3 (out,[],qs)=none:=rfl
     rw[e1,Option.bind_none] at r1
     rw[r1]
     try simp only[go_sem,seval,cJ,im,iT,iV]
     exact qk
   | cons t us =>
     have e1:YX 3 (out,t::us,qs)=some (out++[.mk 3 t []],us,qs):=rfl
     rw[e1,jk] at r1
     obtain⟨tk,tn,tt,ta⟩:=t
     have g0:(cJ (.mk tk tn tt ta::us))[0]?=some [vi tk,vi tn,vs tt,.list .none 4 (cJ ta)]:=rfl
     have gl:(((cJ (.mk tk tn tt ta::us)).length:Nat):Int)=((us.length+1:Nat):Int):=by rw[cF];rfl
     have x0:(((us.length+1:Nat):Int)=0)=False:=iU xh
     have x1:((0:Int)<((us.length+1:Nat):Int))=True:=iS xh
     try simp only[go_sem,seval,gl,x0,x1,g0,iV,WF,jf,jq,jr,jt]
     have eT:List.take ((((us.length+1:Nat):Int)).toNat-1) (List.drop 1 (cJ (.mk tk tn tt ta::us)))=cJ us:=by
      rw[iF]
      exact iW (by show(cJ us).length<=us.length+1-1;rw[cF];omega)
     rw[eT]
     refine⟨by omega,by omega,?_⟩
     refine⟨rfl,(hv.cons hb _).append rfl xj yL rfl xf (hH.cons _) (fun v' S' hv' hkp hS'=>?_)⟩
     refine vh ?_
     rw[hw i xh]
     exact .mk (i+1,v',us,qs,S') ⟨by simp only;omega,⟨out++[.mk 3 (.mk tk tn tt ta) []],_,r1,hv',by rw[dO];exact hE.snoc ⟨.refl _,.refl _,.refl _,.refl _,.refl _,.nilN _ _,trivial⟩,by simp only[ii,iq];omega⟩,hS'⟩ xS ⟨.refl _,.refl _,.refl _,.refl _,trivial⟩ yV (.refl _)
  have z3:(k=3)=False:=iU h3
  by_cases h45:k=4\/k=5
  ·cases qs with
   | nil =>
     have e1:YX k (out,us,[])=none:=by unfold YX;rw[ig h12,ig h3,gZ h45]
     rw[e1,Option.bind_none] at r1
     rw[r1]
     rcases h45 with rfl|rfl
     ·try simp only[go_sem,seval,dB,im,iT,iV]
      exact qk
     ·try simp only[go_sem,seval,dB,im,iT,iV]
      exact qk
   | cons p qs =>
     have e1:YX k (out,us,p::qs)=some (out++[.mk k zTm [p]],us,qs):=by unfold YX;rw[ig h12,ig h3,gZ h45]
     rw[e1,jk] at r1
     have g0:(dB (p::qs))[0]?=some p.emb:=rfl
     have gl:(((dB (p::qs)).length:Nat):Int)=((qs.length+1:Nat):Int):=by rw[dG];rfl
     have x0:(((qs.length+1:Nat):Int)=0)=False:=iU xh
     have x1:((0:Int)<((qs.length+1:Nat):Int))=True:=iS xh
     have eT:List.take ((((qs.length+1:Nat):Int)).toNat-1) (List.drop 1 (dB (p::qs)))=dB qs:=by
      rw[iF]
      exact iW (by show(dB qs).length<=qs.length+1-1;rw[dG];omega)
     have hpW:Wk (.list .full 10 [p.emb]) (.list .none 10 (dB [p])):=.list _ _ _
     obtain⟨pk,pn,pu,⟨tk,tn,tt,ta⟩,psp,pm,pl⟩:=p
     simp only[eP] at g0 hpW
     rcases h45 with rfl|rfl
     ·try simp only[go_sem,seval,gl,x0,x1,g0,iV,WF,jf,jq,jr,jt]
      rw[eT]
      refine⟨rfl,by omega,by omega,?_⟩
      refine⟨rfl,(hv.cons hb _).append rfl xj yL rfl xf (hH.cons _) (fun v' S' hv' hkp hS'=>?_)⟩
      refine vh ?_
      rw[hw i xh]
      exact .mk (i+1,v',us,qs,S') ⟨by simp only;omega,⟨out++[.mk 4 zTm [_]],_,r1,hv',by rw[dO];exact hE.snoc ⟨.refl _,.refl _,.refl _,.refl _,.nilN _ _,hpW,trivial⟩,by simp only[ii,iq];omega⟩,hS'⟩ xS ⟨.refl _,.refl _,.refl _,.refl _,trivial⟩ yV (.refl _)
     ·try simp only[go_sem,seval,gl,x0,x1,g0,iV,WF,jf,jq,jr,jt]
      rw[eT]
      refine⟨rfl,by omega,by omega,?_⟩
      refine⟨rfl,(hv.cons hb _).append rfl xj yL rfl xf (hH.cons _) (fun v' S' hv' hkp hS'=>?_)⟩
      refine vh ?_
      rw[hw i xh]
      exact .mk (i+1,v',us,qs,S') ⟨by simp only;omega,⟨out++[.mk 5 zTm [_]],_,r1,hv',by rw[dO];exact hE.snoc ⟨.refl _,.refl _,.refl _,.refl _,.nilN _ _,hpW,trivial⟩,by simp only[ii,iq];omega⟩,hS'⟩ xS ⟨.refl _,.refl _,.refl _,.refl _,trivial⟩ yV (.refl _)
  ·have z4:(k=4)=False:=iU fun e=>h45 (.inl e)
   have z5:(k=5)=False:=iU fun e=>h45 (.inr e)
   have e1:YX k (out,us,qs)=none:=by unfold YX;rw[ig h12,ig h3,ig h45]
   rw[e1,Option.bind_none] at r1
   rw[r1]
   try simp only[go_sem,seval,z1,z2,z3,z4,z5,iV]
   exact qk
 ·cases us with
  | nil =>
    cases qs with
    | nil =>
      have hir:path.drop i=[]:=jD xh
      rw[hir,Up] at r1
      try simp only[go_sem,seval,cJ,dB,im,hv.one,hv.cells]
      rw[r1]
      exact .mk (Wk.tup2 (hv.wk.trans (hE.wk 6)) (.refl _)) (hH.sub hnd) ⟨rfl,rfl⟩
    | cons p qs =>
      have hir:path.drop i=[]:=jD xh
      rw[hir,Up] at r1
      rw[r1]
      have x1:((0:Int)<(((dB (p::qs)).length:Nat):Int))=True:=iS (by rw[dG,ij];omega)
      try simp only[go_sem,seval,cJ,im,x1]
      exact .mk (Wk.tup2 (.nilN _ _) (.refl _)) (hH.sub hnd) ⟨rfl,rfl⟩
  | cons t us =>
    have hir:path.drop i=[]:=jD xh
    rw[hir,Up] at r1
    rw[r1]
    have e1:Mo (some (out,t::us,qs))=([],1):=by cases qs<;>rfl
    rw[e1]
    have x1:((0:Int)<(((cJ (t::us)).length:Nat):Int))=True:=iS (by rw[cF,ij];omega)
    try simp only[go_sem,seval,x1]
    exact .mk (Wk.tup2 (.nilN _ _) (.refl _)) (hH.sub hnd) ⟨rfl,rfl⟩
theorem Ft(c:Zr)(ts:List Tm)(ps:List Pf):Pur nC 11 [.agg c.emb,.list .none 4 (cJ ts),.list .none 10 (dB ps)] (.agg [.list .none 6 (dM (TN c.path ts ps).1),vi (TN c.path ts ps).2]):=by
 intro σ
 refine Zh.nodup xy (fun hnd=>?_)
 refine Zh.ok xy (fun hok=>?_)
 have hlp:=((hok _ ir).agg (c:=.list .none 1 (Zu c.path)) xK).len
 have hlt:=(hok _ (kR _ ir)).len
 have hlq:=(hok _ (kR _ (kR _ ir))).len
 rw[Z9] at hlp
 rw[cF] at hlt
 rw[dG] at hlq
 clear hok
 refine uI fun hw=>?_
 unfold TN
 obtain⟨r0,hr0⟩:∃ r,r=Up c.path ([],ts,ps):=⟨_,rfl⟩
 rw[<- hr0]
 simp only[Zr.emb]
 generalize c.path=path at hlp hr0 ⊢
 refine Zb [] [] Tryz.func11 rfl xy ?_;rw[Tryz.ntmps11,Tryz.results11]
 refine uw ?_
 intro b6 hb6
 obtain⟨S0,hS0⟩:∃ S0:Store,S0=(b6,AObj.cells [.list .full 0 [],vi 0])::σ:=⟨_,rfl⟩
 have h6:S0.get b6=some (.cells [.list .full 0 [],vi 0]):=by rw[hS0];exact Ze _ _ _
 have hH0:Has σ S0:=by rw[hS0];exact(Has.refl σ).cons _
 have f6:Zm σ b6:=hb6
 refine uw ?_
 rw[show((b6,AObj.cells [AV.list .full 0 [],AV.val (.int .i64 0)])::σ:Store)=S0 from hS0.symm]
 clear hS0 hb6
 refine Zp (mu:=[]) (dr:=[]) [7,8,9,10,11,12,13,14,15,16,17,18,19,20,21,22,23,24,25,26,27,28,29,30,31,32,33,34,35,36,37,38,39,40,41,42,43,44,45,46,47,48,49,50,51,52,53,54,55,56,57,58,59,60,61,62,63,64,65,66,67] (fun x:Nat×AV×Nat×Nat×Store=>[(10,vi x.1),(7,x.2.1),(8,vi x.2.2.1),(9,vi x.2.2.2.1)]) (fun x=>x.2.2.2.2)
  (fun x=>x.1<=path.length/\x.2.2.1<=ts.length/\x.2.2.2.1<=ps.length/\(∃ out es,r0=Up (path.drop x.1) (out,ts.drop x.2.2.1,ps.drop x.2.2.2.1)/\LV σ x.2.2.2.2 x.2.1 6 es/\Elw es (dM out)/\out.length<=x.1)/\Has σ x.2.2.2.2/\x.2.2.2.2.get b6=some (.cells [.list .full 0 [],vi 0])) (fun x=>path.length-x.1)
  (0,.list .full 0 [],0,0,S0) xy ⟨by simp only;omega,by simp only;omega,by simp only;omega,⟨[],[],hr0,LV.nil _ _ _,Elw.nil,kO _⟩,hH0,h6⟩ ⟨.refl _,.refl _,.refl _,.refl _,trivial⟩ (.refl _) ?_
 clear hH0 h6
 rintro⟨i,v,m,n,S⟩ ⟨i1,i2,i3,⟨out,es,r1,hv,hE,ho⟩,hH,g6⟩
 simp only at i1 i2 i3 r1 hv hE ho hH g6
 refine wv ?_
 refine⟨fun h1=>?_,fun h1=>?_⟩
 ·obtain⟨k,hk⟩:∃ k,path[i]?=some k:=⟨_,iO xh⟩
  have gk:(Zu path)[i]?=some [vi k]:=by rw[Zu,jp,hk];rfl
  have y0:(0<=(i:Int))=True:=iS xh
  have y1:((i:Int)<path.length)=True:=iS xh
  have hd:path.drop i=k::path.drop (i+1):=by
   obtain⟨hl,e⟩:=List.getElem?_eq_some_iff.1 hk
   rw[mw hl,e]
  rw[hd,Up] at r1
  try simp only[go_sem,seval,gk,y0,y1,Z9,iF,jq,jr,jt]
  intro b11 hb
  have n6:b6≠b11:=fun e=>by have:=Zj hb;rw[<- e,g6] at this;cases this
  have w6:∀ c,Store.get ((b11,c)::S) b6=some (.cells [.list .full 0 [],vi 0]):=fun c=>by rw[Zc (iC n6)];exact g6
  have w11:∀ c,Store.get ((b11,c)::S) b11=some c:=fun c=>Ze _ _ _
  have n6':=iU n6
  have n6s:=iU n6.symm
  have wr1:∀ j:Nat,j<=137438953472->IntKind.i64.wrap ((j:Int)+1)=((j+1:Nat):Int):=hw
  by_cases h12:k=1\/k=2
  ·have e1:YX k (out,ts.drop m,ps.drop n)=some (out++[.mk k zTm []],ts.drop m,ps.drop n):=by unfold YX;rw[gZ h12]
   rw[e1,jk] at r1
   rcases h12 with rfl|rfl
   ·refine uw ?_
    refine⟨rfl,(hv.cons hb _).append rfl xj yL rfl xf (hH.cons _) (fun v' S' hv' hkp hS'=>?_)⟩
    refine vh ?_
    rw[hw i xh]
    exact .mk (i+1,v',m,n,S') ⟨by simp only;omega,i2,i3,⟨out++[.mk 1 zTm []],_,r1,hv',by rw[dO];exact hE.snoc ⟨.refl _,.refl _,.refl _,.refl _,.nilN _ _,.nilN _ _,trivial⟩,by simp only[ii,iq];omega⟩,hS',hkp _ _ (w6 _) yi⟩ xS ⟨.refl _,.refl _,.refl _,.refl _,trivial⟩ yV (.refl _)
   ·refine uw ?_
    refine⟨rfl,(hv.cons hb _).append rfl xj yL rfl xf (hH.cons _) (fun v' S' hv' hkp hS'=>?_)⟩
    refine vh ?_
    rw[hw i xh]
    exact .mk (i+1,v',m,n,S') ⟨by simp only;omega,i2,i3,⟨out++[.mk 2 zTm []],_,r1,hv',by rw[dO];exact hE.snoc ⟨.refl _,.refl _,.refl _,.refl _,.nilN _ _,.nilN _ _,trivial⟩,by simp only[ii,iq];omega⟩,hS',hkp _ _ (w6 _) yi⟩ xS ⟨.refl _,.refl _,.refl _,.refl _,trivial⟩ yV (.refl _)
  have z1:(k=1)=False:=iU fun e=>h12 (.inl e)
  have z2:(k=2)=False:=iU fun e=>h12 (.inr e)
  by_cases h3:k=3
  ·subst h3
   by_cases hm:m<ts.length
   ·obtain⟨t,ht⟩:∃ t,ts[m]?=some t:=⟨_,iO hm⟩
    have hdt:ts.drop m=t::ts.drop (m+1):=by
     obtain⟨hl,e⟩:=List.getElem?_eq_some_iff.1 ht
     rw[mw hl,e]
    have e1:YX 3 (out,ts.drop m,ps.drop n)=some (out++[.mk 3 t []],ts.drop (m+1),ps.drop n):=by rw[hdt];rfl
    rw[e1,jk] at r1
    have g0:=eZ ht
    obtain⟨tk,tn,tt,ta⟩:=t
    simp only[cO] at g0
    have x0:(((ts.length:Nat):Int)<=(m:Int))=False:=iU xh
    have x1:((m:Int)<((ts.length:Nat):Int))=True:=iS xh
    have x2:(0<=(m:Int))=True:=iS xh
    have hwm:=hw m xh
    try simp only[go_sem,seval,cF,x0,x1,x2,g0,iV,iF,jq,jr,jt,hwm]
    refine⟨rfl,(hv.cons hb _).append rfl xj yL rfl xf (hH.cons _) (fun v' S' hv' hkp hS'=>?_)⟩
    refine vh ?_
    rw[hw i xh]
    exact .mk (i+1,v',m+1,n,S') ⟨by simp only;omega,hm,i3,⟨out++[.mk 3 (.mk tk tn tt ta) []],_,r1,hv',by rw[dO];exact hE.snoc ⟨.refl _,.refl _,.refl _,.refl _,.refl _,.nilN _ _,trivial⟩,by simp only[ii,iq];omega⟩,hS',hkp _ _ (w6 _) yi⟩ xS ⟨.refl _,.refl _,.refl _,.refl _,trivial⟩ yV (.refl _)
   ·have hdt:ts.drop m=[]:=jD xh
    have e1:YX 3 (out,ts.drop m,ps.drop n)=none:=by rw[hdt];rfl
    rw[e1,Option.bind_none] at r1
    rw[r1]
    have x0:(((ts.length:Nat):Int)<=(m:Int))=True:=iS xh
    try simp only[go_sem,seval,cF,x0,iT,w6,n6',n6s,g6]
    exact ov
  have z3:(k=3)=False:=iU h3
  by_cases h45:k=4\/k=5
  ·by_cases hm:n<ps.length
   ·obtain⟨p,hp⟩:∃ t,ps[n]?=some t:=⟨_,iO hm⟩
    have hdt:ps.drop n=p::ps.drop (n+1):=by
     obtain⟨hl,e⟩:=List.getElem?_eq_some_iff.1 hp
     rw[mw hl,e]
    have e1:YX k (out,ts.drop m,ps.drop n)=some (out++[.mk k zTm [p]],ts.drop m,ps.drop (n+1)):=by unfold YX;rw[ig h12,ig h3,gZ h45,hdt]
    rw[e1,jk] at r1
    have g0:=fJ hp
    have hpW:Wk (.list .full 10 [p.emb]) (.list .none 10 (dB [p])):=.list _ _ _
    obtain⟨pk,pn,pu,⟨tk,tn,tt,ta⟩,psp,pm,pl⟩:=p
    simp only[eP] at g0 hpW
    have x0:(((ps.length:Nat):Int)<=(n:Int))=False:=iU xh
    have x1:((n:Int)<((ps.length:Nat):Int))=True:=iS xh
    have x2:(0<=(n:Int))=True:=iS xh
    have hwm:=hw n xh
    rcases h45 with rfl|rfl
    ·try simp only[go_sem,seval,dG,x0,x1,x2,g0,iV,iF,jq,jr,jt,hwm]
     first|refine⟨rfl,?_⟩|skip
     refine⟨rfl,(hv.cons hb _).append rfl xj yL rfl xf (hH.cons _) (fun v' S' hv' hkp hS'=>?_)⟩
     refine vh ?_
     rw[hw i xh]
     exact .mk (i+1,v',m,n+1,S') ⟨by simp only;omega,i2,hm,⟨out++[.mk 4 zTm [_]],_,r1,hv',by rw[dO];exact hE.snoc ⟨.refl _,.refl _,.refl _,.refl _,.nilN _ _,hpW,trivial⟩,by simp only[ii,iq];omega⟩,hS',hkp _ _ (w6 _) yi⟩ xS ⟨.refl _,.refl _,.refl _,.refl _,trivial⟩ yV (.refl _)
    ·try simp only[go_sem,seval,dG,x0,x1,x2,g0,iV,iF,jq,jr,jt,hwm]
     first|refine⟨rfl,?_⟩|skip
     refine⟨rfl,(hv.cons hb _).append rfl xj yL rfl xf (hH.cons _) (fun v' S' hv' hkp hS'=>?_)⟩
     refine vh ?_
     rw[hw i xh]
     exact .mk (i+1,v',m,n+1,S') ⟨by simp only;omega,i2,hm,⟨out++[.mk 5 zTm [_]],_,r1,hv',by rw[dO];exact hE.snoc ⟨.refl _,.refl _,.refl _,.refl _,.nilN _ _,hpW,trivial⟩,by simp only[ii,iq];omega⟩,hS',hkp _ _ (w6 _) yi⟩ xS ⟨.refl _,.refl _,.refl _,.refl _,trivial⟩ yV (.refl _)
   ·have hdt:ps.drop n=[]:=jD xh
    have e1:YX k (out,ts.drop m,ps.drop n)=none:=by unfold YX;rw[ig h12,ig h3,gZ h45,hdt]
    rw[e1,Option.bind_none] at r1
    rw[r1]
    have x0:(((ps.length:Nat):Int)<=(n:Int))=True:=iS xh
    rcases h45 with rfl|rfl
    ·try simp only[go_sem,seval,dG,x0,iT,w6,n6',n6s,g6]
     exact ov
    ·try simp only[go_sem,seval,dG,x0,iT,w6,n6',n6s,g6]
     exact ov
  ·have z4:(k=4)=False:=iU fun e=>h45 (.inl e)
   have z5:(k=5)=False:=iU fun e=>h45 (.inr e)
   have e1:YX k (out,ts.drop m,ps.drop n)=none:=by unfold YX;rw[ig h12,ig h3,ig h45]
   rw[e1,Option.bind_none] at r1
   rw[r1]
   try simp only[go_sem,seval,z1,z2,z3,z4,z5,iV,w6,n6',n6s,g6]
   exact ov
 ·have hir:path.drop i=[]:=jD xh
  rw[hir,Up] at r1
  rw[r1]
  by_cases hm:m=ts.length
  ·have x0:((m:Int)=((ts.length:Nat):Int))=True:=iS xh
   by_cases hn:n=ps.length
   ·have x1:((n:Int)=((ps.length:Nat):Int))=True:=iS xh
    have e1:Mo (some (out,ts.drop m,ps.drop n))=(out,0):=by rw[jD xh,jD xh];rfl
    rw[e1]
    try simp only[go_sem,seval,cF,dG,x0,x1,iT,iV,g6,hv.one,hv.cells]
    exact .mk (Wkl.agg (s:=[.list .none 6 (dM out),vi 0]) ⟨hv.wk.trans (hE.wk 6),.refl _,trivial⟩) ((hH.set f6 _).sub hnd) ⟨rfl,rfl⟩
   ·have x1:((n:Int)=((ps.length:Nat):Int))=False:=iU xh
    have e1:Mo (some (out,ts.drop m,ps.drop n))=([],1):=by
     rw[jD xh]
     obtain⟨p,r,e⟩:=iQ (l:=ps.drop n) (fun e=>by have:=je List.length e;rw[iP] at this;simp at this;omega)
     rw[e];rfl
    rw[e1]
    try simp only[go_sem,seval,cF,dG,x0,x1,iT,iV,g6]
    exact ov
  ·have x0:((m:Int)=((ts.length:Nat):Int))=False:=iU xh
   have e1:Mo (some (out,ts.drop m,ps.drop n))=([],1):=by
    obtain⟨p,r,e⟩:=iQ (l:=ts.drop m) (fun e=>by have:=je List.length e;rw[iP] at this;simp at this;omega)
    rw[e];cases ps.drop n<;>rfl
   rw[e1]
   try simp only[go_sem,seval,cF,dG,x0,iT,iV,g6]
   exact ov
open Go.Proofs
abbrev TuC (l:List Tu):Prop:=Pur nC 12 [.list .none 6 (dM l),.list .none 6 (dM l)] (vb true)
abbrev PfC (l:List Pf):Prop:=Pur nC 36 [.list .none 10 (dB l),.list .none 10 (dB l)] (vb true)
def TuP:Tu->Prop
 | .mk k t l=>PfC l
def PfP:Pf->Prop
 | .mk k n u t sp mv l=>TuC sp/\PfC l
theorem Mt(l:List Tu)(h:∀ x∈l,TuP x):TuC l:=by
 intro σ
 refine Zh.ok xy (fun hok=>?_)
 have hl:=(hok _ ir).len
 rw[dE] at hl
 clear hok
 refine Zb [] [(6,36,0)] Tryz.func12 rfl xy ?_;rw[Tryz.ntmps12,Tryz.results12]
 try simp only[go_sem,seval,dE,eq_self,iT,jA]
 refine Zp (mu:=[]) (dr:=[(6,36,0)]) [4,5,11,12,13,14,15,16,17,18,19,20,21,22,23,24,25,26,27,28,29,30,31,32,33,34,35,36,37,38,39,40,41,42,43,44,45,46,47,48,49,50,51,52,53,54,55] (fun i:Nat=>[(5,vi i)]) (fun _=>σ) (fun i=>i<=l.length) (fun i=>l.length-i) 0 xy xh ⟨.refl _,trivial⟩ (.refl _) ?_
 intro i hi
 try simp only[go_sem,seval,dE]
 refine⟨fun h1=>?_,fun h1=>?_⟩
 ·obtain⟨x,hx⟩:∃ x,l[i]?=some x:=⟨_,iO xh⟩
  have g:=fT hx
  refine uB fun x0=>?_
  have x1:((i:Int)<l.length)=True:=iS xh
  have hc:=h x (iG hx)
  obtain⟨k,t,pl⟩:=x
  have ht:=SV t
  have hp:PfC pl:=hc
  obtain⟨tk,tn,ts,ta⟩:=t
  simp only[fM,cO] at g ht
  try simp only[go_sem,seval,dE,g,x0,x1,iF,jq,jr,jt,eq_self,iT,jA]
  first|refine ht.head ?_|refine ht.use ?_
  try simp only[go_sem,seval,dE,g,x0,x1,iF,jq,jr,jt,eq_self,iT,jA]
  first|refine hp.head ?_|refine hp.use ?_
  exact pi
 ·exact oG
theorem Mu(l:List Pf)(h:∀ x∈l,PfP x):PfC l:=by
 intro σ
 refine Zh.ok xy (fun hok=>?_)
 have hls:=hok _ ir
 have hl:=hls.len
 rw[dG] at hl
 clear hok
 refine Zb [] [(13,42,0)] Tryz.func36 rfl xy ?_;rw[Tryz.ntmps36,Tryz.results36]
 try simp only[go_sem,seval,dG,eq_self,iT,jA]
 refine Zp (mu:=[]) (dr:=[(13,42,0)]) [4,5,6,7,8,14,15,16,17,18,19,20,21,22,23,24,25,26,27,28,29,30,31,32,33,34,35,36,37,38,39,40,41,42,43,44,45,46,47,48,49,50,51,52,53,54,55,56,57,58,59,60,61,62,63,64,65,66,67,68,69,70,71,72,73,74,75,76,77,78,79,80,81,82,83,84,85,86,87,88,89,90,91,92,93,94,95,96,97,98,99,100,101,102,103,104,105,106,107,108,109,110,111,112,113,114,115,116,117,118,119,120,121,122,123,124,125,126,127,128,129,130,131,132] (fun i:Nat=>[(5,vi i)]) (fun _=>σ) (fun i=>i<=l.length) (fun i=>l.length-i) 0 xy xh ⟨.refl _,trivial⟩ (.refl _) ?_
 intro i hi
 try simp only[go_sem,seval,dG]
 refine⟨fun h1=>?_,fun h1=>?_⟩
 ·obtain⟨x,hx⟩:∃ x,l[i]?=some x:=⟨_,iO xh⟩
  have g:=fJ hx
  refine uB fun x0=>?_
  have x1:((i:Int)<l.length)=True:=iS xh
  have hc:=h x (iG hx)
  have hxo:=hls.mem (iG g)
  obtain⟨k,n,u,t,sp,mv,pl⟩:=x
  have ht:=SV t
  obtain⟨hsp,hpl⟩:TuC sp/\PfC pl:=hc
  have hsi:=V2 u u .none .none 1 1 (.inl rfl) (.inl rfl)
  rw[jy rfl] at hsi
  obtain⟨tk,tn,ts,ta⟩:=t
  have hml:=(hxo.agg (c:=.list .none 3 (ec mv)) (by simp[eP])).len
  rw[dU] at hml
  simp only[eP,cO] at g ht
  try simp only[go_sem,seval,dG,g,x0,x1,iF,jq,jr,jt]
  intro b6 hb6 b7 hb7
  have n76:=iU hb7.1.symm
  refine vV ?_
  refine hsi.use ?_
  refine vV ?_
  refine ht.use ?_
  refine vV ?_
  refine hsp.use ?_
  refine vV ?_
  refine hpl.use ?_
  refine vV ?_
  obtain⟨U,hU⟩:∃ U:Store,U=(b7,AObj.cells [vi k,vi n,.list .none 1 (Zu u),vi tk,vi tn,vs ts,.list .none 4 (cJ ta),.list .none 6 (dM sp),.list .none 3 (ec mv),.list .none 10 (dB pl)])::(b6,AObj.cells [vi k,vi n,.list .none 1 (Zu u),vi tk,vi tn,vs ts,.list .none 4 (cJ ta),.list .none 6 (dM sp),.list .none 3 (ec mv),.list .none 10 (dB pl)])::σ:=⟨_,rfl⟩
  have u7:U.get b7=some (.cells [vi k,vi n,.list .none 1 (Zu u),vi tk,vi tn,vs ts,.list .none 4 (cJ ta),.list .none 6 (dM sp),.list .none 3 (ec mv),.list .none 10 (dB pl)]):=by rw[hU];exact Ze _ _ _
  have u6:U.get b6=some (.cells [vi k,vi n,.list .none 1 (Zu u),vi tk,vi tn,vs ts,.list .none 4 (cJ ta),.list .none 6 (dM sp),.list .none 3 (ec mv),.list .none 10 (dB pl)]):=by rw[hU,Zc hb7.1.symm];exact Ze _ _ _
  have hUs:Sub σ U:=by rw[hU];exact((Sub.refl σ).skip _).skip _
  rw[<- hU]
  clear hU hsi ht hsp hpl n76 g
  refine Zp (mu:=[]) (dr:=[(13,42,0)]) [4,8,81,82,83,84,85,86,87,88,89,90,91,92,93,94,95,96,97,98,99,100,101,102,103,104,105,106,107,108,109,110,111,112,113,114,115,116,117,118,119,120,121,122,123,124,125,126,127,128,129,130,131,132] (fun i:Nat=>[(8,vi i)]) (fun _=>U) (fun i=>i<=mv.length) (fun i=>mv.length-i) 0 xy xh ⟨.refl _,trivial⟩ (.refl _) ?_
  intro j hj
  try simp only[go_sem,seval,u6,u7,dU]
  refine⟨fun h2=>?_,fun h2=>?_⟩
  ·obtain⟨x,hx⟩:∃ x,mv[j]?=some x:=⟨_,iO xh⟩
   have g:=fV hx
   have y0:(0<=(j:Int))=True:=iS xh
   have y1:((j:Int)<mv.length)=True:=iS xh
   have hts:=Kh x.terms
   have hsi:=V2 x.uses x.uses .none .none 1 1 (.inl rfl) (.inl rfl)
   rw[jy rfl] at hsi
   simp only[Mv.emb] at g
   try simp only[go_sem,seval,u6,u7,g,y0,y1,dU,iF,jq,jr,jt,eq_self,iT,jA]
   first|refine hts.head ?_|refine hts.use ?_
   try simp only[go_sem,seval,u6,u7,g,y0,y1,dU,iF,jq,jr,jt,eq_self,iT,jA]
   first|refine hsi.head ?_|refine hsi.use ?_
   try simp only[go_sem,seval,jA]
   rw[show IntKind.i64.wrap ((j:Int)+1)=((j+1:Nat):Int) from Zk xh xh]
   exact .mk (j+1) xh xh ⟨.refl _,trivial⟩ yV (.refl _)
  ·refine uw ?_
   refine uR ?_
   exact .mk (i+1) xh xh ⟨.refl _,trivial⟩ yV hUs
 ·exact oG
theorem Fg:(∀ l:List Pf,∀ x∈l,PfP x)/\∀ l:List Tu,∀ x∈l,TuP x:=by
 refine gR (M:=fun l=>∀ x∈l,PfP x) (N:=fun l=>∀ x∈l,TuP x) (fun x h=>by cases h) (fun x h=>by cases h) (fun k n u t sp mv l r h1 h2 h3 x hx=>?_) (fun k t l r h1 h2 x hx=>?_)
 ·rcases List.mem_cons.1 hx with rfl|hx
  ·exact⟨Mt sp h1,Mu l h2⟩
  ·exact h3 x hx
 ·rcases List.mem_cons.1 hx with rfl|hx
  ·exact Mu l h1
  ·exact h2 x hx
theorem Ms(l:List Tu):TuC l:=Mt l (Fg.2 l)
open Go.Proofs Go.RowKit
theorem MW.len_eq{P:nE}{t e sz:Nat}{σ S:Store}{v:AV}{es:List (List AV)}(h:MW σ sz S v es)(hu:P.underlying t=some (.slice e))(S':Store)(K:AV->Prop):VC P t v S' K=K (.val (.int .i64 es.length)):=by
 rcases h with⟨rfl,s,rfl⟩|⟨b,cap,rest,rfl,_⟩
 ·rw[VV,hu,Rg]
 ·rw[TZ,hu,Rg]
theorem Mm(es:List (List AV))(sz:Nat)(hsz:∀ e∈es,e.length=sz)(rest:List AV)(a:Nat)(e':List AV)(he':e'.length=sz)(ha:a<es.length):(es.flatten++rest).take (a * sz)++(e'++(es.flatten++rest).drop (a * sz+sz))=(es.set a e').flatten++rest:=by
 have hln:(es.take a).flatten.length=a * sz:=by rw[flen (fun e he=>hsz e (iY he)),ip,ks xh]
 have h2:es[a].length=sz:=hsz _ (kj ha)
 have hsp:es=es.take a++es[a]::es.drop (a+1):=by rw[List.getElem_cons_drop,jl]
 have hset:es.set a e'=es.take a++e'::es.drop (a+1):=by rw[List.set_eq_take_append_cons_drop,gZ ha]
 rw[hset]
 conv=>lhs;rw[hsp]
 rw[nA,nA,mn,mn,<- hln,<- h2]
 generalize(es.take a).flatten=A at *
 generalize(es.drop (a+1)).flatten=B
 generalize es[a]=C at *
 rw[show(A++(C++B)++rest).take A.length=A by simp]
 rw[show(A++(C++B)++rest).drop (A.length+C.length)=B++rest by
  rw[show A++(C++B)++rest=(A++C)++(B++rest) by simp,<- ii,List.drop_left]]
 simp
theorem MW.idx{P:nE}{t e sz:Nat}{σ S:Store}{v:AV}{es:List (List AV)}(h:MW σ sz S v es)(hes:∀ x∈es,x.length=sz)(hel:Yf P t=some e)(hsz:ZB P e=some sz){n:Nat}{c:List AV}(hn:es[n]?=some c) :
 ∃ b cs,blk v=some b/\S.get b=some (.cells cs)/\(cs.drop (n * sz)).take sz=c/\sz<=(cs.drop (n * sz)).length/\∀ K,Ya P t v (.val (.int .i64 n)) K=K (.val (.pointer (some ⟨b,n * sz,none⟩))):=by
 have hnl:=(List.getElem?_eq_some_iff.1 hn).1
 rcases h with⟨rfl,s,rfl⟩|⟨b,cap,rest,rfl,hg,hcap,hle,hf⟩
 ·simp at hn
 ·obtain⟨f1,f2⟩:=WE es (fun i e he=>hes e (iG he))
  have hc:=hes c (iG hn)
  have hb:n * sz+sz<=es.length * sz:=by rw[<- lU];exact lY _ hnl
  refine⟨b,_,rfl,hg,?_,by rw[iP,ii,f1];omega,fun K=>?_⟩
  ·apply ml
   intro j
   rw[lA]
   by_cases hj:j<sz
   ·rw[gZ hj,ku,jU (by rw[f1];omega)]
    exact f2 n j c hn hj
   ·rw[ig hj,jE xh]
  ·rw[VW,hel,jk,hsz,M4]
   apply propext
   constructor
   ·rintro⟨_,_,k⟩;simpa using k
   ·intro k;exact⟨by omega,by omega,by simpa using k⟩
theorem MW.upd{P:nE}{t e sz:Nat}{σ S:Store}{v:AV}{es:List (List AV)}(h:MW σ sz S v es)(hes:∀ x∈es,x.length=sz)(hel:Yf P t=some e)(hsz:ZB P e=some sz){n:Nat}(hn:n<es.length) :
 ∃ b cs,blk v=some b/\S.get b=some (.cells cs)/\n * sz+sz<=cs.length/\(∀ K,Ya P t v (.val (.int .i64 n)) K=K (.val (.pointer (some ⟨b,n * sz,none⟩)))) /\
   ∀ c':List AV,c'.length=sz->MW σ sz (S.set b (.cells (cs.take (n * sz)++(c'++cs.drop (n * sz+sz))))) v (es.set n c'):=by
 obtain⟨b,cs,h1,h2,-,h4,h5⟩:=h.idx hes hel hsz (iO hn)
 rcases h with⟨rfl,s,rfl⟩|⟨b',cap,rest,rfl,hg,hcap,hle,hf⟩
 ·simp at hn
 ·simp only[blk,jq] at h1
  subst h1
  rw[hg] at h2;injection h2 with h2;injection h2 with h2;subst h2
  rw[iP] at h4
  have hb:n * sz+sz<=es.length * sz:=by rw[<- lU];exact lY _ hn
  have f1:=flen hes
  refine⟨b',_,rfl,hg,by rw[ii,f1];omega,h5,fun c' hc'=>.inr ⟨b',cap,rest,by simp,?_,by simpa using hcap,by simpa using hle,hf⟩⟩
  rw[Zd hg,Mm es sz hes rest n c' hc' hn]
theorem MWk.app{P:nE}{sT xT el by_ sz:Nat}{z:nG}{σ S:Store}{v:AV}{es':List (List AV)}{es ys zs:List (List AV)}{rt:Rt}{s2:Nat}{K:AV->Store->Prop}(h:MW σ sz S v es')(hE:EwL es' es)(hes:∀ e∈es',e.length=sz)(hys:∀ e∈zs,e.length=sz)(he1:es'.flatten.all AV.one=true)(hy1:zs.flatten.all AV.one=true)(hs2:s2=sz\/zs=[])
 (hz:EwL zs ys) (h1:Yf P sT=some el) (h2:ZB P el=some sz) (h3:Zy P el=some z) (h4:ZY P el=some by_) (h5:(Yf P xT).isSome=true) (h6:z.cells.size=sz) (h7:by_<=512) (hl:es'.length+zs.length<=137438953472) (hH:Has σ S)
 (kk:∀ v' S',MWk σ sz S' v' (es++ys)->Kp (Bk v) (Bk v') S S'->Has σ S'->K v' S'):TJ P sT xT v (.list rt s2 zs) S K :=
 h.app hes hys he1 hy1 hs2 h1 h2 h3 h4 h5 h6 h7 hl hH fun v' S' a b c=>kk v' S' ⟨_,a,by
  refine⟨by rw[ii,ii,hE.1,hz.1],fun i e' e he' he=>?_⟩
  by_cases hi:i<es'.length
  ·rw[jU hi] at he'
   rw[jU (by rw[<- hE.1];exact hi)] at he
   exact hE.2 i e' e he' he
  ·rw[jT xh] at he'
   rw[jT (by rw[<- hE.1];omega),<- hE.1] at he
   exact hz.2 _ e' e he' he⟩ b c
theorem EwL.sz{es' es:List (List AV)}(h:EwL es' es){sz:Nat}(hs:∀ e∈es,e.length=sz):∀ e∈es',e.length=sz:=fun e he=>by
 obtain⟨i,hi,rfl⟩:=iN he
 have hi2:i<es.length:=by rw[<- h.1];exact hi
 rw[(h.2 i _ _ (iO hi) (iO hi2)).1.at.1]
 exact hs _ (kj hi2)
theorem EwL.one{es' es:List (List AV)}(h:EwL es' es):es'.flatten.all AV.one=true:=by
 rw[List.all_eq_true]
 intro x hx
 obtain⟨e,he,hx⟩:=List.mem_flatten.1 hx
 obtain⟨i,hi,rfl⟩:=iN he
 exact List.all_eq_true.1 (h.2 i _ _ (iO hi) (iO (show i<es.length by rw[<- h.1];exact hi))).2 x hx
theorem EwL.set{es' es:List (List AV)}(h:EwL es' es)(n:Nat){c' c:List AV}(hc:Wkl c' c)(h1:c'.all AV.one=true):EwL (es'.set n c') (es.set n c):=by
 refine⟨by simp[h.1],fun i a b ha hb=>?_⟩
 have hi:=(List.getElem?_eq_some_iff.1 ha).1
 rw[List.length_set] at hi
 by_cases e:i=n
 ·subst e
  rw[List.getElem?_set_self xM] at ha
  rw[List.getElem?_set_self yk] at hb
  injection ha with ha;injection hb with hb
  subst ha;subst hb;exact⟨hc,h1⟩
 ·rw[List.getElem?_set_ne (iC e)] at ha hb
  exact h.2 i a b ha hb
theorem eG(l:List FGroup):∀ e∈cX l,e.length=2:=fun e he=>by obtain⟨t,_,rfl⟩:=List.mem_map.1 he;rfl
end Go.Vx
end
section
namespace Go.Vx
open Go.Proofs Go.RowKit
section
variable {σ:Store} {O0:Nat->Prop} {S0:Store} {bm bs br bo:Nat} {zs:List AV} {gv vt vl:AV} {st:GSt} {cs:List AV} {T:Nat->Prop} {S:Store}
theorem FK.pushT(h:FK σ O0 S0 bm bs br bo zs gv vt vl st cs T S){v':AV}{S' S'':Store}{b:Nat}{X:List AV}{t:Ty}(hk:Kp (Bk vt) (Bk v') S S')(hH:Has σ S')(hb:blk v'=some b)(hf:Zm σ b)(hX:S''.get b=some (.cells X))(hY:S''.get bs=some (.cells [.val (.pointer (some ⟨bm,0,none⟩)),v',vl]))
 (hZ:∀ k,k≠b->k≠bs->S''.get k=S'.get k) (hH2:Has σ S'') (hw:MW σ 2 S'' v' (cI (st.types++[t]))) (hl:st.types.length+1<=100000):FK σ O0 S0 bm bs br bo zs gv v' vl ⟨st.m,st.types++[t],st.locals⟩ cs T S'':=by
 have hs:=h.sk
 have beside:∀ k x,S.get k=some x->blk vt≠some k->k≠bs->S''.get k=some x/\blk v'≠some k:=fun k x hx hn hnb=>by
  exact sm
 obtain⟨m1,m2⟩:=beside _ _ hs.mkr.gm hs.ntm hs.nsm.symm
 have hbs:blk v'≠some bs:=(hk _ _ hs.gs hs.nts).2
 have hgv:∀ k,blk gv=some k->S''.get k=S.get k/\blk v'≠some k:=fun k e=>by
  obtain⟨es',hw',_⟩:=hs.mkr.gw
  obtain⟨⟨c,hc⟩,_⟩:=hw'.at e
  obtain⟨p,q⟩:=beside k _ hc (hs.ngt k e) (fun e2=>hs.ngs ye)
  exact⟨p.trans hc.symm,q⟩
 have hvl:∀ k,blk vl=some k->S''.get k=S.get k/\blk v'≠some k:=fun k e=>by
  obtain⟨⟨c,hc⟩,_⟩:=hs.wl.at e
  obtain⟨p,q⟩:=beside k _ hc (fun e2=>hs.ntl k e2 e) (fun e2=>hs.nls ye)
  exact⟨p.trans hc.symm,q⟩
 refine wn fun hmk=>?_
 have sk':SK σ bm bs gv v' vl ⟨st.m,st.types++[t],st.locals⟩ S'' :=
  { mkr:=hmk,gs:=hY,wt:=hw,wl:=hs.wl.cell fun k c hk hc=>(hvl k hk).1.trans hc,fs:=hs.fs,nsm:=hs.nsm,ngs:=hs.ngs,ntm:=m2,nts:=hbs,nlm:=hs.nlm,nls:=hs.nls,ngt:=fun k e=>(hgv k e).2,ngl:=hs.ngl,ntl:=fun k e e2=>(hvl k e2).2 e,tl:=by simp only[ii,ij,im];omega,ll:=by have:=hs.ll;simp only[ii,ij,im];omega }
 have mine:∀ k x,S.get k=some x->¬ sO bm bs gv vt vl k->S''.get k=some x/\¬ sO bm bs gv v' vl k:=fun k x hx hn=>by
  obtain⟨p,q⟩:=beside k x hx (fun e=>hn (.inr (.inr (.inl e)))) (fun e=>hn (.inr (.inl e)))
  exact⟨p,fun e=>by
   rcases e with e|e|e|e
   ·exact hn (.inl e)
   ·exact hn (.inr (.inl e))
   ·exact q e
   ·exact hn (.inr (.inr (.inr e)))⟩
 exact ry
theorem FK.pushL(h:FK σ O0 S0 bm bs br bo zs gv vt vl st cs T S){v':AV}{S' S'':Store}{b:Nat}{X:List AV}{t:Ty}(hk:Kp (Bk vl) (Bk v') S S')(hH:Has σ S')(hb:blk v'=some b)(hf:Zm σ b)(hX:S''.get b=some (.cells X))(hY:S''.get bs=some (.cells [.val (.pointer (some ⟨bm,0,none⟩)),vt,v']))
 (hZ:∀ k,k≠b->k≠bs->S''.get k=S'.get k) (hH2:Has σ S'') (hw:MW σ 2 S'' v' (cI (st.locals++[t]))) (hl:st.locals.length+1<=st.types.length):FK σ O0 S0 bm bs br bo zs gv vt v' ⟨st.m,st.types,st.locals++[t]⟩ cs T S'':=by
 have hs:=h.sk
 have beside:∀ k x,S.get k=some x->blk vl≠some k->k≠bs->S''.get k=some x/\blk v'≠some k:=fun k x hx hn hnb=>by
  exact sm
 obtain⟨m1,m2⟩:=beside _ _ hs.mkr.gm hs.nlm hs.nsm.symm
 have hbs:blk v'≠some bs:=(hk _ _ hs.gs hs.nls).2
 have hgv:∀ k,blk gv=some k->S''.get k=S.get k/\blk v'≠some k:=fun k e=>by
  obtain⟨es',hw',_⟩:=hs.mkr.gw
  obtain⟨⟨c,hc⟩,_⟩:=hw'.at e
  obtain⟨p,q⟩:=beside k _ hc (hs.ngl k e) (fun e2=>hs.ngs ye)
  exact⟨p.trans hc.symm,q⟩
 have hvt:∀ k,blk vt=some k->S''.get k=S.get k/\blk v'≠some k:=fun k e=>by
  obtain⟨⟨c,hc⟩,_⟩:=hs.wt.at e
  obtain⟨p,q⟩:=beside k _ hc (hs.ntl k e) (fun e2=>hs.nts ye)
  exact⟨p.trans hc.symm,q⟩
 refine wn fun hmk=>?_
 have sk':SK σ bm bs gv vt v' ⟨st.m,st.types,st.locals++[t]⟩ S'' :=
  { mkr:=hmk,gs:=hY,wl:=hw,wt:=hs.wt.cell fun k c hk hc=>(hvt k hk).1.trans hc,fs:=hs.fs,nsm:=hs.nsm,ngs:=hs.ngs,ntm:=hs.ntm,nts:=hs.nts,nlm:=m2,nls:=hbs,ngl:=fun k e=>(hgv k e).2,ngt:=hs.ngt,ntl:=fun k e=>(hvt k e).2,tl:=hs.tl,ll:=by simp only[ii,ij,im];omega }
 have mine:∀ k x,S.get k=some x->¬ sO bm bs gv vt vl k->S''.get k=some x/\¬ sO bm bs gv vt v' k:=fun k x hx hn=>by
  obtain⟨p,q⟩:=beside k x hx (fun e=>hn (.inr (.inr (.inr e)))) (fun e=>hn (.inr (.inl e)))
  exact⟨p,fun e=>by
   rcases e with e|e|e|e
   ·exact hn (.inl e)
   ·exact hn (.inr (.inl e))
   ·exact hn (.inr (.inr (.inl e)))
   ·exact q e⟩
 exact ry
end
theorem MB{σ S':Store}{v':AV}{l:List Ty}{t:Ty}{bs:Nat}{Y:List AV}{P:nE}{T e:nF}(hw:MW σ 2 S' v' (cI l++[[AV.val (.string { data:=#[] }),AV.list .full 0 []]]))(hel:Yf P T=some e)(hsz:ZB P e=some 2)(hbs:blk v'≠some bs)(hfs:Zm σ bs)(hg:∃ Y0,S'.get bs=some (.cells Y0))(hH:Has σ S') :
 ∃ b cs,blk v'=some b/\Zm σ b/\b≠bs/\S'.get b=some (.cells cs)/\l.length * 2+2<=cs.length/\(∀ K,Ya P T v' (.val (.int .i64 l.length)) K=K (.val (.pointer (some ⟨b,l.length * 2,none⟩)))) /\
   ∀ S'':Store,(S''=(S'.set b (.cells (cs.take (l.length * 2)++(t.emb++cs.drop (l.length * 2+2))))).set bs (.cells Y)\/S''=(S'.set bs (.cells Y)).set b (.cells (cs.take (l.length * 2)++(t.emb++cs.drop (l.length * 2+2))))) ->
     S''.get b=some (.cells (cs.take (l.length * 2)++(t.emb++cs.drop (l.length * 2+2))))/\S''.get bs=some (.cells Y)/\(∀ k,k≠b->k≠bs->S''.get k=S'.get k)/\Has σ S''/\MW σ 2 S'' v' (cI (l++[t])):=by
 obtain⟨b,cs,h1,h2,h3,h4,h5⟩:=hw.upd (P:=P) (fun x hx=>by
  rcases List.mem_append.1 hx with hx|hx
  ·exact ek l x hx
  ·rw[List.mem_singleton.1 hx];rfl) hel hsz (n:=l.length) (by simp[cG])
 have hf:=(hw.at h1).2
 have hne:b≠bs:=fun e=>hbs (by rw[<- e];exact h1)
 obtain⟨Y0,hY0⟩:=hg
 refine⟨b,cs,h1,hf,hne,h2,h3,h4,fun S'' hS=>?_⟩
 have hm:=h5 t.emb t.emb_len
 have he:(cI l++[[AV.val (.string { data:=#[] }),AV.list .full 0 []]]).set l.length t.emb=cI (l++[t]):=by
  rw[List.set_append,ig (by rw[cG];omega),cG,lH,eW]
  simp[di]
 rw[he] at hm
 rcases hS with rfl|rfl
 ·have g1:((S'.set b (.cells (cs.take (l.length * 2)++(t.emb++cs.drop (l.length * 2+2))))).set bs (.cells Y)).get b=some (.cells (cs.take (l.length * 2)++(t.emb++cs.drop (l.length * 2+2)))):=by rw[Za hne];exact Zd h2
  refine⟨g1,Zd (x:=.cells Y0) (by rw[Za hne.symm];exact hY0),fun k hk hk2=>by rw[Za hk2,Za hk],(hH.set hf _).set hfs _,hm.cell fun b' c hb' hc=>?_⟩
  rw[h1] at hb';injection hb' with hb';subst hb'
  rw[Zd h2] at hc;rw[g1];exact hc
 ·have g1:((S'.set bs (.cells Y)).set b (.cells (cs.take (l.length * 2)++(t.emb++cs.drop (l.length * 2+2))))).get b=some (.cells (cs.take (l.length * 2)++(t.emb++cs.drop (l.length * 2+2)))):=Zd (x:=.cells cs) (by rw[Za hne];exact h2)
  refine⟨g1,by rw[Za hne.symm];exact Zd hY0,fun k hk hk2=>by rw[Za hk,Za hk2],(hH.set hfs _).set hf _,hm.cell fun b' c hb' hc=>?_⟩
  rw[h1] at hb';injection hb' with hb';subst hb'
  rw[Zd h2] at hc;rw[g1];exact hc
end Go.Vx
end
