/- A part of the proof of clausalSpinesProved. -/
import Derived.Test.YtllgjklcpieanaaGreatDoorR31
import Derived.Test.YtllgjklcpieanaaGreatDoorR32
set_option linter.unusedVariables false
set_option linter.unusedSimpArgs false
set_option maxRecDepth 100000
section
namespace Go.Vx
open Go.Proofs Go.RowKit
def moY(ds:List Pd):List Fm->Bool
 | g::_=>ydS ds true g
 | []=>false
mutual
def moS(ds:List Pd):Fm->Bool
 | .mk k s a t l=>if k=12 then moY ds l else if k=10 then AB ds l else if k=7\/k=8 then AC ds k l else false
def AB(ds:List Pd):List Fm->Bool
 | g::_=>moS ds g
 | []=>false
def AC(ds:List Pd):Int->List Fm->Bool
 | k,g::h::_=>(decide (kdF ds g=frK k) || clS ds g)&&decide ((nuF 4 g []).length=0)&&moS ds h
 | _,_=>false
end
theorem nds_kid{k:Int}{s:Str}{a:List Tm}{t:Ty}{l:List Fm}{g:Fm}(h:g∈l):g.shape.nds<=(Fm.mk k s a t l).shape.nds:=by
 obtain⟨ts,tl⟩:=t
 simp only[Fm.shape,Ro.nds,ZL]
 have:g.shape.nds<=cP (cR l):=by
  induction l with
  | nil=>cases h
  | cons a r ih =>
    simp only[cR,cP]
    rcases List.mem_cons.1 h with e|e
    ·rw[e];omega
    ·have:=ih e;omega
 omega
theorem Hk(ds:List Pd):∀ f:Fm,Xy f=true->f.shape.nds<=1000000->Pur nC 253 [jdA ds,.agg f.emb] (vb (moS ds f)):=by
 intro f
 induction f using eg with|h k s a ty l ih=>?_
 intro hs hn
 obtain⟨ts,tl⟩:=ty
 intro σ
 have hl:=X6 hs
 replace ih:=fun g hg=>ih g hg (X5 hs g hg) (lj (nds_kid hg) hn)
 have hks:=X5 hs
 have hkn:∀ g∈l,g.shape.nds<=1000000:=fun g hg=>lj (nds_kid hg) hn
 clear hs hn
 by_cases k12:k=12
 ·have e:moS ds (.mk k s a (.mk ts tl) l)=moY ds l:=by simp only[moS,gZ k12]
  have ez:W3 k=1:=by rw[k12];rfl
  obtain⟨g,rfl⟩:=X8 (ez.symm.trans hl)
  rw[e]
  simp only[moY]
  have h1:=JO ds true g (hks g xf)
  have y12:=iS k12
  clear ih e hks hkn
  generalize ydS ds true g=q1 at h1 ⊢
  obtain⟨gk,gs,ga,⟨gt,gu⟩,gl⟩:=g
  simp only[cM,cN,iR,kI,jdA] at h1 ⊢
  refine Zb [] [(3,5,0),(5,5,0),(8,23,0)] Tryz.func253 rfl xy ?_;rw[Tryz.ntmps253,nz]
  try simp only[go_sem,seval,y12,iT,iV,jq,jr,jt]
  exact uh
 have y12:=iU k12
 by_cases k10:k=10
 ·have e:moS ds (.mk k s a (.mk ts tl) l)=AB ds l:=by simp only[moS,ig k12,gZ k10]
  have ez:W3 k=1:=by rw[k10];rfl
  obtain⟨g,rfl⟩:=X8 (ez.symm.trans hl)
  rw[e]
  simp only[AB]
  have h1:=ih g xf
  have y10:=iS k10
  clear ih e hks hkn
  generalize moS ds g=q1 at h1 ⊢
  obtain⟨gk,gs,ga,⟨gt,gu⟩,gl⟩:=g
  simp only[cM,cN,iR,kI,jdA] at h1 ⊢
  refine Zb [] [(3,5,0),(5,5,0),(8,23,0)] Tryz.func253 rfl xy ?_;rw[Tryz.ntmps253,nz]
  try simp only[go_sem,seval,y12,y10,iT,iV,jq,jr,jt]
  exact uh
 have y10:=iU k10
 by_cases k78:k=7\/k=8
 ·have e:moS ds (.mk k s a (.mk ts tl) l)=AC ds k l:=by simp only[moS,ig k12,ig k10,gZ k78]
  have ez:W3 k=2:=by rcases k78 with h|h<;>rw[h]<;>rfl
  obtain⟨g,h,rfl⟩:=XI (ez.symm.trans hl)
  rw[e]
  simp only[AC]
  have h1:=Iy ds k g _ (Kv ds g (hks g xf)).2
  have h2:=ih h xf
  have h3:=K2 4 g (hkn g xf)
  clear ih e hks hkn
  generalize(decide (kdF ds g=frK k) || clS ds g)=q1 at h1 ⊢
  generalize moS ds h=q2 at h2 ⊢
  generalize nuF 4 g []=nl at h3 ⊢
  obtain⟨gk,gs,ga,⟨gt,gu⟩,gl⟩:=g
  obtain⟨hk,hs,ha,⟨ht,hu⟩,hl⟩:=h
  simp only[cM,cN,iR,kI,jdA] at h1 h2 h3 ⊢
  refine Zb [] [(3,5,0),(5,5,0),(8,23,0)] Tryz.func253 rfl xy ?_;rw[Tryz.ntmps253,nz]
  by_cases k7:k=7
  ·have y7:=iS k7
   try simp only[go_sem,seval,y12,y10,y7,iT,iV,jq,jr,jt]
   exact tP
  ·have y7:=iU k7
   have y8:=iS (k78.resolve_left k7)
   try simp only[go_sem,seval,y12,y10,y7,y8,iT,iV,jq,jr,jt]
   exact tP
 have y7:(k=7)=False:=iU fun h=>k78 (.inl h)
 have y8:(k=8)=False:=iU fun h=>k78 (.inr h)
 have e:moS ds (.mk k s a (.mk ts tl) l)=false:=by simp only[moS,ig k12,ig k10,ig k78]
 rw[e]
 simp only[cM,jdA]
 refine Zb [] [(3,5,0),(5,5,0),(8,23,0)] Tryz.func253 rfl xy ?_;rw[Tryz.ntmps253,nz]
 try simp only[go_sem,seval,y12,y10,y7,y8,iT,iV]
 exact Zl
def goS(ds:List Pd)(f:Fm):Bool:=plS ds f || moS ds f
theorem C4(ds:List Pd)(f:Fm)(hs:Xy f=true)(hn:f.shape.nds<=1000000):Pur nC 183 [jdA ds,.agg f.emb] (vb (goS ds f)):=by
 intro σ
 have h1:=(Kv ds f hs).1
 have h2:=Hk ds f hs hn
 unfold goS
 generalize plS ds f=q1 at h1 ⊢
 generalize moS ds f=q2 at h2 ⊢
 obtain⟨k,s,a,⟨ts,tl⟩,l⟩:=f
 simp only[cM,jdA] at h1 h2 ⊢
 refine Zb [] [] Tryz.func183 rfl xy ?_;rw[Tryz.ntmps183,Tryz.results183]
 refine uw ?_
 refine h1.use ?_
 cases q1 with
 | true=>try simp only[go_sem,seval];exact Zs xf
 | false =>
   refine uw ?_
   refine h2.use ?_
   exact oP
structure B4 (f:Fm):Prop where
 shp:Xy f=true
 dp:dpB f.shape 100=false
 nds:f.shape.nds<=4000
theorem Se{f:Fm}(h:Qs f=0):B4 f:=by
 unfold Qs at h
 by_cases h1:4000<prt f.shape 4000
 ·rw[gZ h1] at h;simp at h
 ·rw[ig h1] at h
  rw[Na _ _ xh] at h1
  cases h2:dpB f.shape 100 with
  | true=>rw[h2] at h;simp at h
  | false =>
    rw[h2] at h
    cases h3:Xy f with
    | false=>rw[h3] at h;simp at h
    | true=>exact⟨h3,h2,by omega⟩
def QO(ds:List Pd)(f:Fm):Bool:=decide (Qs f=0)&&goS ds f
theorem HO(ds:List Pd)(f:Fm):Pur nC 115 [jdA ds,.agg f.emb] (vb (QO ds f)):=by
 intro σ
 have h1:=Km f
 have h2:=fun h=>C4 ds f (Se h).shp (lj (Se h).nds xh)
 unfold QO
 generalize goS ds f=q2 at h2 ⊢
 generalize Qs f=c at h1 h2 ⊢
 obtain⟨k,s,a,⟨ts,tl⟩,l⟩:=f
 simp only[cM,jdA] at h1 h2 ⊢
 refine Zb [] [] Tryz.func115 rfl xy ?_;rw[Tryz.ntmps115,Tryz.results115]
 refine uw ?_
 refine h1.use ?_
 by_cases hc:c=0
 ·have y:=iS hc
  rw[jy hc]
  refine vI ?_
  refine(h2 hc).use ?_
  exact oP
 ·have y:=iU hc
  rw[jY hc]
  refine wz ?_
  exact Zs xf
theorem CP(ds:List Pd)(f:Fm):Pur nC 92 [jdA ds,.agg f.emb] (vb (decide (kdF ds f=2))):=by
 intro σ
 have h1:=WC ds f
 generalize kdF ds f=c at h1 ⊢
 obtain⟨k,s,a,⟨ts,tl⟩,l⟩:=f
 simp only[cM,jdA] at h1 ⊢
 refine Zb [] [] Tryz.func92 rfl xy ?_;rw[Tryz.ntmps92,Tryz.results92]
 refine uw ?_
 exact uh
theorem CO(ds:List Pd)(f:Fm):Pur nC 94 [jdA ds,.agg f.emb] (vb (decide (kdF ds f=3))):=by
 intro σ
 have h1:=WC ds f
 generalize kdF ds f=c at h1 ⊢
 obtain⟨k,s,a,⟨ts,tl⟩,l⟩:=f
 simp only[cM,jdA] at h1 ⊢
 refine Zb [] [] Tryz.func94 rfl xy ?_;rw[Tryz.ntmps94,Tryz.results94]
 refine uw ?_
 exact uh
theorem Vi{P:nE}{t e:nF}{len s:Nat}{cs:List AV}{n:Int}{v:AV}{K:AV->Prop}(hu:P.underlying t=some (.array len e))(hs:ZB P e=some s)(h0:0<=n)(h1:n<len)(hp:VU P e (cs.drop (n.toNat * s))=some v)(k:K v):Vj P t (.agg cs) (.val (.int .i64 n)) K:=by
 unfold Vj;simp only[hu,hs,hp];exact⟨h0,h1,k⟩
def Ou(ds:List Pd)(f:Fm):Int:=if clS ds f then 1 else if kdF ds f=2 then 2 else if kdF ds f=3 then 3 else if C8 ds f then 4 else 0
theorem F2(ds:List Pd)(f:Fm)(ho:B4 f):Pur nC 56 [jdA ds,.agg f.emb] (vi (Ou ds f)):=by
 intro σ
 have h1:=(Kv ds f ho.shp).2
 have h2:=CP ds f
 have h3:=CO ds f
 have h4:=Aj ds f ho.shp ho.dp
 unfold Ou
 generalize clS ds f=q1 at h1 ⊢
 generalize kdF ds f=c at h2 h3 ⊢
 generalize C8 ds f=q4 at h4 ⊢
 obtain⟨k,s,a,⟨ts,tl⟩,l⟩:=f
 simp only[cM,jdA] at h1 h2 h3 h4 ⊢
 refine Zb [] [] Tryz.func56 rfl xy ?_;rw[Tryz.ntmps56,Tryz.results56]
 refine uw ?_
 refine Zp (mu:=[]) (dr:=[]) [4,5,6,8,9,10,11,12,13,14,15,16,17,18,19,20,21] (fun i:Nat=>[(8,vi i)]) (fun _=>σ) (fun i=>i<=5/\(1<i->q1=false)/\(2<i->c≠2)/\(3<i->c≠3)/\(4<i->q4=false)) (fun i=>5-i) 0 xy ⟨by omega,by omega,by omega,by omega,by omega⟩ ⟨.refl _,trivial⟩ (.refl _) ?_
 rintro i ⟨hi,e1,e2,e3,e4⟩
 match i,hi with
 | 0,_ =>
   refine wJ ?_
   refine Vi (e:=178) (len:=5) (s:=1) xy xy xj xj (v:=.val .nilFunc) xy ?_
   try simp only[go_sem,seval,iT,iV]
   exact .mk 1 ⟨by omega,by omega,by omega,by omega,by omega⟩ xh ⟨.refl _,trivial⟩ yS (.refl _)
 | 1,_ =>
   refine wJ ?_
   refine Vi (e:=178) (len:=5) (s:=1) xy xy xj xj (v:=.val (.func (.func 91) #[] #[])) xy ?_
   try simp only[go_sem,seval,iT,iV]
   refine h1.use ?_
   cases q1 with
   | true=>try simp only[go_sem,seval];exact Zl
   | false =>
     refine uw ?_
     exact .mk 2 (by simp_all) xh ⟨.refl _,trivial⟩ yS (.refl _)
 | 2,_ =>
   refine wJ ?_
   refine Vi (e:=178) (len:=5) (s:=1) xy xy xj xj (v:=.val (.func (.func 92) #[] #[])) xy ?_
   try simp only[go_sem,seval,iT,iV]
   refine h2.use ?_
   by_cases hc:c=2
   ·have y:=iS hc
    rw[jy hc]
    have e1:=e1 xh
    rw[e1,ig xj]
    rw[gZ hc]
    exact oG
   ·rw[jY hc]
    refine uw ?_
    exact .mk 3 (by simp_all) xh ⟨.refl _,trivial⟩ yS (.refl _)
 | 3,_ =>
   refine wJ ?_
   refine Vi (e:=178) (len:=5) (s:=1) xy xy xj xj (v:=.val (.func (.func 94) #[] #[])) xy ?_
   try simp only[go_sem,seval,iT,iV]
   refine h3.use ?_
   by_cases hc:c=3
   ·have y:=iS hc
    rw[jy hc]
    have e1:=e1 xh
    rw[e1,ig xj]
    have e2:=e2 xh
    rw[ig e2]
    rw[gZ hc]
    exact oG
   ·rw[jY hc]
    refine uw ?_
    exact .mk 4 (by simp_all) xh ⟨.refl _,trivial⟩ yS (.refl _)
 | 4,_ =>
   refine wJ ?_
   refine Vi (e:=178) (len:=5) (s:=1) xy xy xj xj (v:=.val (.func (.func 95) #[] #[])) xy ?_
   try simp only[go_sem,seval,iT,iV]
   refine h4.use ?_
   have e1:=e1 xh
   have e2:=e2 xh
   have e3:=e3 xh
   rw[e1,ig xj,ig e2,ig e3]
   cases q4 with
   | true=>try simp only[go_sem,seval];exact Zl
   | false =>
     refine uw ?_
     exact .mk 5 (by simp_all) xh ⟨.refl _,trivial⟩ yS (.refl _)
 | 5,_ =>
   have e1:=e1 xh
   have e2:=e2 xh
   have e3:=e3 xh
   have e4:=e4 xh
   rw[e1,e4,ig xj,ig e2,ig e3,ig xj]
   refine wJ ?_
   exact Zl
open Go.Proofs Go.RowKit
def bh(k u:Int):Bool:=if u=1 then decide (k=1) || decide (k=3) || decide (k=4) else if u=2 then decide (k=1) || decide (k=2) else decide (u=3)&&decide (k=1)
def Rx(ds:List Pd)(r:Rl):Bool:=decide (Qs r.form=0)&&bh (Ou ds r.form) r.use
theorem JC(ds:List Pd)(r:Rl):Pur nC 134 [jdA ds,.agg r.emb] (vb (Rx ds r)):=by
 intro σ
 obtain⟨nm,f,u⟩:=r
 have h1:=Km f
 have h2:=fun h=>F2 ds f (Se h)
 unfold Rx
 dsimp only
 generalize Ou ds f=kk at h2 ⊢
 generalize Qs f=c at h1 h2 ⊢
 obtain⟨k,s,a,⟨ts,tl⟩,l⟩:=f
 simp only[cM,dZ,jdA] at h1 h2 ⊢
 refine Zb [] [] Tryz.func134 rfl xy ?_;rw[Tryz.ntmps134,Tryz.results134]
 refine uw ?_
 refine h1.use ?_
 by_cases hc:c=0
 ·have y:=iS hc
  rw[jy hc,jz]
  unfold bh
  refine vI ?_
  refine(h2 hc).use ?_
  by_cases u1:u=1
  ·have z:=iS u1
   rw[gZ u1]
   by_cases k1:kk=1
   ·have v:=iS k1
    try simp only[go_sem,seval,z,v,iT]
    exact Zs xf
   ·have v:=iU k1
    by_cases k3:kk=3
    ·have v3:=iS k3
     try simp only[go_sem,seval,z,v,v3,iT,iV]
     exact Zs xf
    ·have v3:=iU k3
     try simp only[go_sem,seval,z,v,v3,iT,iV]
     exact Zs xf
  ·have z:=iU u1
   rw[ig u1]
   by_cases u2:u=2
   ·have z2:=iS u2
    rw[gZ u2]
    by_cases k1:kk=1
    ·have v:=iS k1
     try simp only[go_sem,seval,z,z2,v,iT,iV]
     exact Zs xf
    ·have v:=iU k1
     try simp only[go_sem,seval,z,z2,v,iT,iV]
     exact Zs xf
   ·have z2:=iU u2
    rw[ig u2]
    by_cases u3:u=3
    ·have z3:=iS u3
     rw[jy u3]
     try simp only[go_sem,seval,z,z2,z3,iT,iV]
     exact Zs xf
    ·have z3:=iU u3
     rw[jY u3]
     try simp only[go_sem,seval,z,z2,z3,iT,iV]
     exact Zs xf
 ·have y:=iU hc
  rw[jY hc]
  refine wz ?_
  exact Zs xf
def NE(p:Pg)(f:Fm):Int:=if Qs f=0 then Ou p.preds f else 0
theorem Bd(p:Pg)(f:Fm):Pur nC 25 [.agg p.emb,.agg f.emb] (vi (NE p f)):=by
 intro σ
 have h1:=Km f
 have h2:=fun h=>F2 p.preds f (Se h)
 unfold NE
 generalize Ou p.preds f=kk at h2 ⊢
 generalize Qs f=c at h1 h2 ⊢
 obtain⟨tys,cs,ds,rs,qs⟩:=p
 obtain⟨k,s,a,⟨ts,tl⟩,l⟩:=f
 simp only[cM,dW,jdA] at h1 h2 ⊢
 refine Zb [] [] Tryz.func25 rfl xy ?_;rw[Tryz.ntmps25,Tryz.results25]
 refine uw ?_
 refine h1.use ?_
 by_cases hc:c=0
 ·have y:=iS hc
  rw[gZ hc]
  refine vI ?_
  refine(h2 hc).use ?_
  exact oG
 ·have y:=iU hc
  rw[ig hc]
  refine wz ?_
  exact Zl
def WT:List Bool->Nat->List Int
 | [],_=>[]
 | b::r,i=>if b then WT r (i+1) else(i:Int)::WT r (i+1)
theorem RQ(l m:List Bool)(i:Nat):WT (l++m) i=WT l i++WT m (i+l.length):=by
 induction l generalizing i with
 | nil=>simp[WT]
 | cons b r ih =>
   simp only[kE,WT,ij]
   rw[ih,show i+1+r.length=i+(r.length+1) by omega]
   cases b<;>simp
theorem Lz(l:List Bool)(i:Nat):(WT l i).length<=l.length:=by
 induction l generalizing i with
 | nil=>simp[WT]
 | cons b r ih=>cases b<;>simp only[WT]<;>have:=ih (i+1)<;>simp<;>omega
theorem LA(l:List Bool)(i:Nat):(WT l i).length=0↔l.all id=true:=by
 induction l generalizing i with
 | nil=>simp[WT]
 | cons b r ih=>cases b<;>simp[WT];simpa using ih (i+1)
def VB(p:Pg):List Int×List Int×Int:=if SB p=0 then(WT (p.rules.map (Rx p.preds)) 0,WT (p.queries.map fun q=>QO p.preds q.form) 0,0) else([],[],SB p)
def PP(p:Pg):Int:=if SB p=0 then(if p.rules.all (Rx p.preds) then(if p.queries.all fun q=>QO p.preds q.form then 0 else 61) else 60) else SB p
theorem Dg(p:Pg):Pur nC 75 [.agg p.emb] (.tup [.list .none 1 (Zu (VB p).1),.list .none 1 (Zu (VB p).2.1),vi (VB p).2.2]):=by
 intro σ
 refine Zh.nodup xy (fun hnd=>?_)
 refine Zh.ok xy (fun hok=>?_)
 have hp:=Sf (hok _ ir)
 clear hok
 have hl1:=hp.rules
 have hl2:=hp.queries
 have hc:=OY p
 have hA:=JC p.preds
 have hG:=HO p.preds
 unfold VB
 generalize SB p=e at hc ⊢
 obtain⟨tys,cs,ds,rs,qs⟩:=p
 dsimp only at hA hG hl1 hl2 ⊢
 simp only[dW,jdA] at hc hA hG ⊢
 refine Zb [] [] Tryz.func75 rfl xy ?_;rw[Tryz.ntmps75,Tryz.results75]
 refine uw ?_
 refine hc.use ?_
 by_cases he:e=0
 ·have y:=iS he
  rw[gZ he]
  dsimp only
  refine vI ?_
  intro b6 hb6
  have f6:Zm σ b6:=hb6
  refine Zp (mu:=[]) (dr:=[]) [2,7,8,22,23,24,25,26,27,28,29,30,31,32,33,34,35] (fun x:Nat×AV×Store=>[(22,vi x.1),(2,x.2.1)]) (fun x=>x.2.2)
   (fun x=>x.1<=rs.length/\LV σ x.2.2 x.2.1 1 (Zu (WT ((rs.take x.1).map (Rx ds)) 0))/\x.2.2.get b6=some (.cells [.list .none 4 (df ds)])/\Has σ x.2.2) (fun x=>rs.length-x.1)
   (0,.list .full 0 [],_) xy ⟨by omega,LV.nil _ _ _,Ze _ _ _,(Has.refl σ).cons _⟩ ⟨.refl _,.refl _,trivial⟩ (.refl _) ?_
  rintro⟨i,v,S⟩ ⟨hi,iL,g6,iH⟩
  dsimp only at hi iL g6 iH ⊢
  refine uB fun x0=>?_
  by_cases c:i<rs.length
  ·have x1:((i:Int)<(rs.length:Int))=True:=iS xh
   obtain⟨t,ht⟩:∃ t,rs[i]?=some t:=⟨rs[i],iO c⟩
   have gt:(dx rs)[i]?=some t.emb:=by rw[dx,jp,ht];rfl
   refine uE fun hw=>?_
   have hln:=Lz ((rs.take i).map (Rx ds)) 0
   rw[io,ip] at hln
   have htk:WT ((rs.take (i+1)).map (Rx ds)) 0=WT ((rs.take i).map (Rx ds)) 0++(if Rx ds t then[] else[(i:Int)]):=by
    rw[jh,ht,jj,jv,RQ]
    simp only[iR,kI,WT,io,ip,jG]
    rw[show min i rs.length=i by omega]
   have ha:=hA t
   generalize Rx ds t=q at ha htk
   obtain⟨rn,⟨fk,fs,fa,⟨ft,fu⟩,fl⟩,ru⟩:=t
   simp only[dZ] at gt ha
   try simp only[go_sem,seval,du,x0,x1,gt,iT,iF,jq,jr,jt]
   intro b8 hb8
   obtain⟨U,hU⟩:∃ U:Store,U=(b8,AObj.cells [vs rn,vi fk,vs fs,.list .none 4 (cJ fa),vs ft,.list .none 2 (cI fu),.list .none 6 (cN fl),vi ru])::S:=⟨_,rfl⟩
   have u8:U.get b8=some (.cells [vs rn,vi fk,vs fs,.list .none 4 (cJ fa),vs ft,.list .none 2 (cI fu),.list .none 6 (cN fl),vi ru]):=by rw[hU];exact Ze _ _ _
   have u6:U.get b6=some (.cells [.list .none 4 (df ds)]):=by rw[hU,Zg hb8 (by rw[g6];rfl)];exact g6
   have uL:=iL.cons hb8 (.cells [vs rn,vi fk,vs fs,.list .none 4 (cJ fa),vs ft,.list .none 2 (cI fu),.list .none 6 (cN fl),vi ru])
   have uH:Has σ U:=by rw[hU];exact iH.cons _
   rw[<- hU] at uL ⊢
   clear hU g6 iL iH
   try simp only[go_sem,seval,u8,u6]
   refine ha.use ?_
   cases q with
   | true =>
     rw[gZ rfl,kh] at htk
     refine wu ?_
     exact .mk (i+1,v,U) ⟨by omega,by dsimp only;rw[htk];exact uL,u6,uH⟩ xh ⟨.refl _,.refl _,trivial⟩ yS (.refl _)
   | false =>
     rw[ig xj] at htk
     refine wu ?_
     refine⟨rfl,uL.append rfl xj yA rfl xf uH (fun v' S' hv' hkp hS'=>?_)⟩
     have u6':=hkp _ _ u6 xf
     refine wu ?_
     exact .mk (i+1,v',S') ⟨by omega,by dsimp only;rw[htk];simpa[Zu] using hv',u6',hS'⟩ xh ⟨.refl _,.refl _,trivial⟩ yS (.refl _)
  have x1:((i:Int)<(rs.length:Int))=False:=iU xh
  rw[show rs.take i=rs from iW xh] at iL
  have hv1:=iL.wk
  have hv2:=iL.one
  have hv3:=iL.cells
  try simp only[go_sem,seval,du,x0,x1,iV]
  clear iL hA
  generalize WT (rs.map (Rx ds)) 0=o1 at hv1 ⊢
  refine Zp (mu:=[]) (dr:=[]) [3,9,10,39,40,41,42,43,44,45,46,47,48,49,50,51,52,53] (fun x:Nat×AV×Store=>[(39,vi x.1),(3,x.2.1)]) (fun x=>x.2.2)
   (fun x=>x.1<=qs.length/\LV σ x.2.2 x.2.1 1 (Zu (WT ((qs.take x.1).map fun q=>QO ds q.form) 0))/\x.2.2.get b6=some (.cells [.list .none 4 (df ds)])/\Has σ x.2.2) (fun x=>qs.length-x.1)
   (0,.list .full 0 [],_) xy ⟨by omega,LV.nil _ _ _,g6,iH⟩ ⟨.refl _,.refl _,trivial⟩ (.refl _) ?_
  clear g6 iH x0 x1 c
  rintro⟨j,w,T⟩ ⟨hj,iL,g6,iH⟩
  dsimp only at hj iL g6 iH ⊢
  refine vy fun x0=>?_
  by_cases c:j<qs.length
  ·have x1:((j:Int)<(qs.length:Int))=True:=iS xh
   obtain⟨t,ht⟩:∃ t,qs[j]?=some t:=⟨qs[j],iO c⟩
   have gt:(dy qs)[j]?=some t.emb:=by rw[dy,jp,ht];rfl
   refine uV fun hw=>?_
   have hln:=Lz ((qs.take j).map fun q=>QO ds q.form) 0
   rw[io,ip] at hln
   have htk:WT ((qs.take (j+1)).map fun q=>QO ds q.form) 0=WT ((qs.take j).map fun q=>QO ds q.form) 0++(if QO ds t.form then[] else[(j:Int)]):=by
    rw[jh,ht,jj,jv,RQ]
    simp only[iR,kI,WT,io,ip,jG]
    rw[show min j qs.length=j by omega]
   have ha:=hG t.form
   generalize QO ds t.form=q at ha htk
   obtain⟨rn,rv,⟨fk,fs,fa,⟨ft,fu⟩,fl⟩⟩:=t
   simp only[dX,cM] at gt ha
   try simp only[go_sem,seval,dA,x0,x1,gt,iT,iF,jq,jr,jt]
   intro b8 hb8
   obtain⟨U,hU⟩:∃ U:Store,U=(b8,AObj.cells [vs rn,.list .none 3 (cZ rv),vi fk,vs fs,.list .none 4 (cJ fa),vs ft,.list .none 2 (cI fu),.list .none 6 (cN fl)])::T:=⟨_,rfl⟩
   have u8:U.get b8=some (.cells [vs rn,.list .none 3 (cZ rv),vi fk,vs fs,.list .none 4 (cJ fa),vs ft,.list .none 2 (cI fu),.list .none 6 (cN fl)]):=by rw[hU];exact Ze _ _ _
   have u6:U.get b6=some (.cells [.list .none 4 (df ds)]):=by rw[hU,Zg hb8 (by rw[g6];rfl)];exact g6
   have uL:=iL.cons hb8 (.cells [vs rn,.list .none 3 (cZ rv),vi fk,vs fs,.list .none 4 (cJ fa),vs ft,.list .none 2 (cI fu),.list .none 6 (cN fl)])
   have uH:Has σ U:=by rw[hU];exact iH.cons _
   rw[<- hU] at uL ⊢
   clear hU g6 iL iH
   try simp only[go_sem,seval,u8,u6]
   refine ha.use ?_
   cases q with
   | true =>
     rw[gZ rfl,kh] at htk
     refine wu ?_
     exact .mk (j+1,w,U) ⟨by omega,by dsimp only;rw[htk];exact uL,u6,uH⟩ xh ⟨.refl _,.refl _,trivial⟩ yS (.refl _)
   | false =>
     rw[ig xj] at htk
     refine wu ?_
     refine⟨rfl,uL.append rfl xj yA rfl xf uH (fun v' S' hv' hkp hS'=>?_)⟩
     have u6':=hkp _ _ u6 xf
     refine wu ?_
     exact .mk (j+1,v',S') ⟨by omega,by dsimp only;rw[htk];simpa[Zu] using hv',u6',hS'⟩ xh ⟨.refl _,.refl _,trivial⟩ yS (.refl _)
  have x1:((j:Int)<(qs.length:Int))=False:=iU xh
  rw[show qs.take j=qs from iW xh] at iL
  try simp only[go_sem,seval,dA,x0,x1,iV,hv2,hv3,iL.one,iL.cells]
  exact .mk (.tup3 hv1 iL.wk (.refl _)) (iH.sub hnd) ⟨rfl,rfl⟩
 ·have y:=iU he
  rw[ig he]
  dsimp only
  refine wz ?_
  exact Zz (.tup3 (.nilA _ _ _) (.nilA _ _ _) (.refl _)) (.refl _)
theorem QY(p:Pg):Pur nC 37 [.agg p.emb] (vi (PP p)):=by
 intro σ
 have hb:=Dg p
 have e:PP p=if(VB p).2.2=0 then(if(VB p).1.length=0 then(if(VB p).2.1.length=0 then 0 else 61) else 60) else(VB p).2.2:=by
  unfold PP VB
  by_cases h:SB p=0
  ·rw[gZ h,gZ h]
   dsimp only
   have a1:=LA (p.rules.map (Rx p.preds)) 0
   have a2:=LA (p.queries.map fun q=>QO p.preds q.form) 0
   simp only[List.all_map,Function.comp_def,id] at a1 a2
   simp only[a1,a2,iE]
  ·rw[ig h,ig h]
   dsimp only
   rw[ig h]
 rw[e]
 generalize VB p=o at hb ⊢
 obtain⟨o1,o2,o3⟩:=o
 obtain⟨tys,cs,ds,rs,qs⟩:=p
 dsimp only at hb ⊢
 simp only[dW] at hb ⊢
 refine Zb [] [] Tryz.func37 rfl xy ?_;rw[Tryz.ntmps37,Tryz.results37]
 refine uw ?_
 refine hb.use ?_
 by_cases h3:o3=0
 ·have y3:=iS h3
  rw[gZ h3]
  by_cases h1:o1.length=0
  ·have y1:((o1.length:Int) > 0)=False:=iU xh
   rw[gZ h1]
   by_cases h2:o2.length=0
   ·have y2:((o2.length:Int) > 0)=False:=iU xh
    rw[gZ h2]
    try simp only[go_sem,seval,ZZ,y1,y2,y3,iT,iV]
    exact Zl
   ·have y2:((o2.length:Int) > 0)=True:=iS xh
    rw[ig h2]
    try simp only[go_sem,seval,ZZ,y1,y2,y3,iT,iV]
    exact Zl
  ·have y1:((o1.length:Int) > 0)=True:=iS xh
   rw[ig h1]
   try simp only[go_sem,seval,ZZ,y1,y3,iT,iV]
   exact Zl
 ·have y3:=iU h3
  rw[ig h3]
  try simp only[go_sem,seval,ZZ,y3,iT,iV]
  exact Zl
end Go.Vx
end
section
namespace Go.Vx
open Go.Proofs Go.RowKit
structure Pm where
 form:Fm
 bound:List Int
 last:Bool
structure Dr where
 path:List Int
 vars:List Ty
 ante:List Pm
 head:Fm
 bound:List Int
mutual
def drS:Fm->Nat->Dr->List Dr
 | .mk k s a t l,env,d=>if k=10 then EX t l env d else if k=5 then NG l env d else if k=7\/k=8 then IA k l env d else[{ d with head:=.mk k s a t l }]
def EX:Ty->List Fm->Nat->Dr->List Dr
 | t,g::_,env,d=>drS g env { d with path:=d.path++[3],bound:=d.bound++[((env+d.vars.length:Nat):Int)],vars:=d.vars++[t] }
 | _,[],_,_=>[]
def NG:List Fm->Nat->Dr->List Dr
 | g::h::_,env,d=>drS g env { d with path:=d.path++[1] }++drS h env { d with path:=d.path++[2] }
 | _,_,_=>[]
def IA:Int->List Fm->Nat->Dr->List Dr
 | k,g::h::_,env,d=>drS h env { d with path:=d.path++[if k=8 then 5 else 4],ante:=d.ante++[⟨g,d.bound,decide (k=8)⟩] }
 | _,_,_,_=>[]
end
def atB(bd:List Int)(i:Nat)(n:Int):Int:=bd.getD (bd.length-1-(n-i).toNat) 0
abbrev QF:=Int->nM Int
mutual
def teS(bd:List Int)(qf:QF):Tm->Nat->Tm
 | .mk k n s l,i=>.mk (if k=2/\(i:Int)<=n then 4 else k) (if k=4 then(qf n).getD 0 else if k=2/\(i:Int)<=n then atB bd i n else n) s (Xx bd qf l (if k=5 then i+1 else i))
def Xx(bd:List Int)(qf:QF):List Tm->Nat->List Tm
 | [],_=>[]
 | t::r,i=>teS bd qf t i::Xx bd qf r i
end
mutual
def Wz(bd:List Int)(qf:QF):Tm->Nat->List Int
 | .mk k n s l,i=>(if k=4 then(qf n).toList else if k=2/\(i:Int)<=n then[atB bd i n] else[])++ZK bd qf l (if k=5 then i+1 else i)
def ZK(bd:List Int)(qf:QF):List Tm->Nat->List Int
 | [],_=>[]
 | t::r,i=>Wz bd qf t i++ZK bd qf r i
end
mutual
def YQ(bd:List Int)(qf:QF):Fm->Nat->List Int
 | .mk k s a t l,i=>ZK bd qf a (if k=10\/k=11 then i+1 else i)++Ye bd qf l (if k=10\/k=11 then i+1 else i)
def Ye(bd:List Int)(qf:QF):List Fm->Nat->List Int
 | [],_=>[]
 | f::r,i=>YQ bd qf f i++Ye bd qf r i
end
def Xo:List Int->Int->Int
 | [],_=>-1
 | y::r,x=>if y=x then 0 else if Xo r x<0 then -1 else Xo r x+1
structure MSt where
 gs:List FGroup
 n:Int
structure GSt where
 m:MSt
 types:List Ty
 locals:List Ty
def Uf(m:MSt)(k:Int):nM MSt:=if m.n+k<=8000 then some ⟨m.gs,m.n+k⟩ else none
def YS{α β σ:Type}(f:α->σ->nM (β×σ)):List α->σ->nM (List β×σ)
 | [],s=>some ([],s)
 | a::r,s=>match f a s with
   | none=>none
   | some (b,s1)=>match YS f r s1 with
     | none=>none
     | some (bs,s2)=>some (b::bs,s2)
abbrev GoalF:=Fm->List Int->QF->GSt->nM (Zi×GSt)
def zTy:Ty:=.mk { data:=#[] } []
def YU(G:GoalF)(env:List Ty)(qf:QF)(d:Dr)(m:MSt):nM (Zr×MSt) :=
 match Uf m 1 with
 | none=>none
 | some m1=>match YS (fun(p:Pm) st=>G p.form p.bound qf st) d.ante ⟨m1,env++d.vars,[]⟩ with
   | none=>none
   | some (gl,st)=>match Uf st.m (cP (cK (RR d.head))) with
     | none=>none
     | some m2=>some (⟨d.vars,st.locals,d.path,(match d.head with|.mk _ s _ _ _=>s),Xx d.bound qf (RR d.head) 0,gl,d.ante.map Pm.last⟩,m2)
def Yz(bd:List Int)(qf:QF)(f:Fm):List Int:=(YQ bd qf f 0).foldl XJ []
def W7(outer:List Int)(qf:QF):QF:=fun k=>(qf k).bind fun n=>if Xo outer n<0 then none else some (Xo outer n)
def Xp(G:GoalF)(f:Fm)(bd:List Int)(qf:QF)(types:List Ty)(m:MSt):nM (Int×List Int×MSt) :=
 if m.gs.length<1000 then
  match YS (YU G ((Yz bd qf f).map fun n=>types.getD n.toNat zTy) (W7 (Yz bd qf f) qf)) (drS f (Yz bd qf f).length ⟨[],[],[],.mk 0 { data:=#[] } [] zTy [],bd.map (Xo (Yz bd qf f))⟩) ⟨m.gs++[⟨[],[]⟩],m.n⟩ with
  | none=>none
  | some (alts,m2)=>some ((m.gs.length:Int),Yz bd qf f,⟨m2.gs.set m.gs.length ⟨(Yz bd qf f).map fun n=>types.getD n.toNat zTy,alts⟩,m2.n⟩)
 else none
def Z2:Nat->GoalF
 | 0=>fun _ _ _ _=>none
 | k+1=>fun f bd qf st=>match f with
   | .mk kd s a t l=>match Uf st.m 1 with
     | none=>none
     | some m1 =>
       if kd=1 then(match Uf m1 (cP (cK a)) with
        | none=>none
        | some m2=>some (.mk 1 s (Xx bd qf a 0) zTy [] 0 0 [],{ st with m:=m2 }))
       else if kd=10\/kd=11 then(match l with
        | []=>none
        | g::_=>if st.types.length+1<=2000 then(match Z2 k g (bd++[(st.types.length:Int)]) qf ⟨m1,st.types++[t],st.locals++[t]⟩ with
          | none=>none
          | some (x,st2)=>some (.mk kd { data:=#[] } [] t [x] st.types.length 0 [],st2)) else none)
       else if kd=7\/kd=8 then(match l with
        | g::h::_=>(match Xp (Z2 k) g bd qf st.types m1 with
          | none=>none
          | some (at_,outer,m2)=>match Z2 k h bd qf { st with m:=m2 } with
            | none=>none
            | some (x,st2)=>some (.mk kd { data:=#[] } [] zTy [x] 0 at_ outer,st2))
        | _=>none)
       else(match YS (fun g st=>Z2 k g bd qf st) l { st with m:=m1 } with
        | none=>none
        | some (xs,st2)=>some (.mk kd { data:=#[] } [] zTy xs 0 0 [],st2))
def WL(p:Pg)(r:Rl)(m:MSt):nM (Int×MSt) :=
 if NE p r.form=4 then some (-1,m) else match Xp (Z2 101) r.form [] (fun _=>none) [] m with
  | none=>none
  | some (n,_,m2)=>some (n,m2)
def Iz(p:Pg):Flat×Int :=
 if PP p=0 then(match YS (WL p) p.rules ⟨[],0⟩ with
  | none=>(⟨[],[]⟩,2)
  | some (rs,m)=>(⟨m.gs,rs⟩,0))
 else(⟨[],[]⟩,PP p)
mutual
def scT(V:Nat):Tm->Nat->Bool
 | .mk k n s l,m=>(if k=2 then decide (0<=n)&&decide (n<m) else if k=4 then decide (0<=n)&&decide (n<V) else decide (k=1) || decide (k=5))&&To V l (if k=5 then m+1 else m)
def To(V:Nat):List Tm->Nat->Bool
 | [],_=>true
 | t::r,m=>scT V t m&&To V r m
end
mutual
def scF(V:Nat):Fm->Nat->Bool
 | .mk k s a t l,m=>To V a m&&Tq V l (if k=10\/k=11 then m+1 else m)&&(decide (k=1) || a.isEmpty)
def Tq(V:Nat):List Fm->Nat->Bool
 | [],_=>true
 | f::r,m=>scF V f m&&Tq V r m
end
theorem UJ(V:Nat)(l:List Tm)(m:Nat):To V l m=true↔∀ t∈l,scT V t m=true:=by
 induction l with
 | nil=>simp[To]
 | cons a r ih=>simp[To,ih]
theorem Mr(V:Nat)(l:List Fm)(m:Nat):Tq V l m=true↔∀ t∈l,scF V t m=true:=by
 induction l with
 | nil=>simp[Tq]
 | cons a r ih=>simp[Tq,ih]
mutual
theorem Ff{cT:Str->nM Ty}{vars:List Nt}:∀ (t:Tm) (w:Ty) (env:List Plc),tmS cT vars env t w=true->scT vars.length t env.length=true
 | .mk k n s l,.mk ws wl,env,h=>by
   simp only[tmS] at h
   simp only[scT,kJ]
   split at h
   ·rename_i a b
    simp only[kJ,kD] at h
    obtain⟨⟨⟨hk,_⟩,_⟩,h1⟩:=h
    subst hk
    refine⟨by simp,?_⟩
    match l,h1 with
    | [x],h1 =>
      simp only[tm1] at h1
      have:=Ff x b (env++[⟨a,false⟩]) h1
      simp only[To,lf,iE]
      simpa using this
    | [],h1=>simp[tm1] at h1
    | _::_::_,h1=>simp[tm1] at h1
   ·split at h
    ·cases h
    ·rename_i own ch sc hh
     simp only[kJ,kD] at h
     have h2:=O6 l _ env h.1.1.1.1 h.2
     unfold YZ at hh
     split at hh
     ·rename_i hk
      subst hk
      exact⟨by simp,by rw[ig xj];exact h2⟩
     ·split at hh
      ·rename_i hk
       subst hk
       split at hh
       ·rename_i hc
        exact⟨by rw[gZ rfl];simp;omega,by rw[ig xj];exact h2⟩
       ·cases hh
      ·split at hh
       ·rename_i hk
        subst hk
        split at hh
        ·rename_i hc
         exact⟨by rw[ig xj,gZ rfl];simp;omega,by rw[ig xj];exact h2⟩
        ·cases hh
       ·cases hh
theorem O6{cT:Str->nM Ty}{vars:List Nt}:∀ (l:List Tm) (w:List Ty) (env:List Plc),w.length=l.length->YM cT vars env l w=true->To vars.length l env.length=true
 | [],_,_,_,_=>rfl
 | a::r,t::ts,env,hl,h=>by
   simp only[YM,kJ] at h
   simp only[To,kJ]
   exact⟨Ff a t env h.1,O6 r ts env xL h.2⟩
 | _::_,[],_,hl,_=>by simp at hl
end
mutual
theorem Kg{hasT:Str->Bool}{cT:Str->nM Ty}{pP:Str->nM Pd}{vars:List Nt}:∀ (f:Fm) (left:Bool) (env:List Plc),fmS hasT cT pP vars left env f=true->scF vars.length f env.length=true
 | .mk k s a (.mk ts tl) l,left,env,h=>by
   simp only[fmS] at h
   split at h
   ·cases h
   rename_i hsz
   have hsz2:(l.length:Int)=(ZQ k).1:=kG fun hh=>hsz (.inr hh)
   split at h
   ·rename_i hk
    subst hk
    have hl:l=[]:=by
     have:(ZQ 1).1=0:=by decide
     rw[this] at hsz2
     exact List.length_eq_zero_iff.1 xh
    subst hl
    simp only[kJ] at h
    have h2:=h.2
    split at h2
    ·cases h2
    ·simp only[kJ,kD] at h2
     simp only[scF,Tq,kJ]
     exact⟨⟨O6 a _ env h2.1 h2.2,trivial⟩,by simp⟩
   ·split at h
    ·rename_i hk
     simp only[kJ,kD] at h
     obtain⟨⟨⟨⟨ha,_⟩,_⟩,_⟩,h1⟩:=h
     have ha:a=[]:=List.length_eq_zero_iff.1 ha
     subst ha
     simp only[scF,To,kJ,gZ hk]
     refine⟨⟨trivial,?_⟩,by simp⟩
     match l,h1 with
     | [x],h1 =>
       simp only[fm1] at h1
       have:=Kg x left _ h1
       simp only[Tq,lf]
       simpa using this
     | [],h1=>simp[fm1] at h1
     | _::_::_,h1=>simp[fm1] at h1
    ·rename_i hk
     simp only[kJ,kD] at h
     obtain⟨⟨⟨⟨_,_⟩,ha⟩,_⟩,h1⟩:=h
     have ha:a=[]:=List.length_eq_zero_iff.1 ha
     subst ha
     simp only[scF,To,kJ,ig hk]
     exact⟨⟨trivial,JY l left _ env h1⟩,by simp⟩
theorem JY{hasT:Str->Bool}{cT:Str->nM Ty}{pP:Str->nM Pd}{vars:List Nt}:∀ (l:List Fm) (left turn:Bool) (env:List Plc),VM hasT cT pP vars left env turn l=true->Tq vars.length l env.length=true
 | [],_,_,_,_=>rfl
 | f::r,left,turn,env,h=>by
   simp only[VM,kJ] at h
   simp only[Tq,kJ]
   exact⟨Kg f _ env h.1,JY r left false env h.2⟩
end
theorem Al{t:Ro}{m:Nat}(h:prt t m<=m):t.nds<=m:=by
 have:=Na t m xh
 omega
structure cC (V m:Nat) (f:Fm):Prop where
 sc:scF V f m=true
 shp:Xy f=true
 nds:f.shape.nds<=4000
theorem Fl{p:Pg}(h:PP p=0):(∀ r∈p.rules,cC 0 0 r.form/\dpB r.form.shape 100=false)/\p.rules.length<=150:=by
 unfold PP at h
 split at h
 case isFalse hc=>exact absurd h hc
 rename_i hc
 split at h
 case isFalse=>exact absurd h xj
 rename_i ha
 unfold SB at hc
 split at hc
 ·cases hc
 rename_i hlong
 split at hc
 ·cases hc
 split at hc
 case isFalse=>cases hc
 rename_i hv
 unfold TK at hv
 simp only[kJ,List.all_eq_true] at hv
 refine⟨fun r hr=>?_,?_⟩
 ·have h1:=hv.1.2 r hr
  have h2:=List.all_eq_true.1 ha r hr
  unfold Qr at h1
  unfold Rx at h2
  simp only[kJ,kD] at h1 h2
  have h3:=h2.1
  unfold Qs at h3
  split at h3
  ·cases h3
  rename_i hp
  split at h3
  ·cases h3
  rename_i hd
  split at h3
  case isFalse=>cases h3
  rename_i hs
  have hsc:=Kg r.form true [] h1.2
  exact⟨⟨by simpa using hsc,hs,Al (m:=4000) (Int.not_lt.1 hp)⟩,by simpa using hd⟩
 ·unfold TF at hlong
  simp only[kH,kD,not_or,Nat.not_lt] at hlong
  omega
end Go.Vx
end
