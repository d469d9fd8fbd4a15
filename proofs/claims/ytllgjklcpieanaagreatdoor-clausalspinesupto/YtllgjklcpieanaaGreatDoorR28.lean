/- A part of the proof of clausalSpinesProved. -/
import Derived.Test.YtllgjklcpieanaaGreatDoorR24
set_option linter.unusedVariables false
set_option linter.unusedSimpArgs false
set_option maxRecDepth 100000
section
namespace Go.Vx
open Go.Proofs Go.RowKit
def frK(k:Int):Int:=if k=8 then 3 else 2
mutual
def plS(ds:List Pd):Fm->Bool
 | .mk k s a t l=>if k=1 then decide (UN ds k s=1) || decide (UN ds k s=2) || decide (UN ds k s=3) else if k=2\/k=3 then true else if k=7\/k=8 then Am ds k l else if k=12 then false else Ic ds l
def Am(ds:List Pd):Int->List Fm->Bool
 | k,g::h::_=>(decide (kdF ds g=frK k) || clS ds g)&&plS ds h
 | _,_=>false
def Ic(ds:List Pd):List Fm->Bool
 | []=>true
 | g::r=>plS ds g&&Ic ds r
def clS(ds:List Pd):Fm->Bool
 | .mk k s a t l=>if k=1 then decide (UN ds k s=1) else if k=5 then ah ds l else if k=10 then ai ds l else if k=7\/k=8 then aj ds l else false
def ah(ds:List Pd):List Fm->Bool
 | g::h::_=>clS ds g&&clS ds h
 | _=>false
def ai(ds:List Pd):List Fm->Bool
 | g::_=>clS ds g
 | _=>false
def aj(ds:List Pd):List Fm->Bool
 | g::h::_=>plS ds g&&clS ds h
 | _=>false
end
theorem Ha(ds:List Pd)(l:List Fm):Ic ds l=!(l.any fun g=>!plS ds g):=by
 induction l with
 | nil=>rfl
 | cons a r ih=>simp only[Ic,mX,ih];cases plS ds a<;>simp
theorem X6{k:Int}{s:Str}{a:List Tm}{t:Ty}{l:List Fm}(h:Xy (.mk k s a t l)=true):W3 k=(l.length:Int):=by
 obtain⟨ts,tl⟩:=t
 simp only[Xy,kJ,kD] at h
 exact h.1.1.1
theorem X5{k:Int}{s:Str}{a:List Tm}{t:Ty}{l:List Fm}(h:Xy (.mk k s a t l)=true):∀ g∈l,Xy g=true:=by
 obtain⟨ts,tl⟩:=t
 simp only[Xy,kJ,Od] at h
 have h4:=h.2
 simpa using h4
theorem XI{l:List Fm}(h:(2:Int)=(l.length:Int)):∃ g d,l=[g,d]:=by
 match l,h with
 | [g,d],_=>exact⟨g,d,rfl⟩
 | [],h=>simp at h
 | [_],h=>simp at h
 | _::_::_::_,h=>simp at h;omega
theorem X8{l:List Fm}(h:(1:Int)=(l.length:Int)):∃ g,l=[g]:=by
 match l,h with
 | [g],_=>exact⟨g,rfl⟩
 | [],h=>simp at h
 | _::_::_,h=>simp at h;omega
theorem Iy(ds:List Pd)(k:Int)(f:Fm)(q:Bool)(hc:Pur nC 91 [jdA ds,.agg f.emb] (vb q)) :
 Pur nC 219 [jdA ds,vi k,.agg f.emb] (vb (decide (kdF ds f=frK k) || q)):=by
 intro σ
 have hk:=WC ds f
 generalize kdF ds f=kd at hk ⊢
 obtain⟨fk,s,a,⟨ts,tl⟩,l⟩:=f
 simp only[cM,jdA] at hc hk ⊢
 refine Zb [] [] Tryz.func219 rfl xy ?_;rw[Tryz.ntmps219,Tryz.results219]
 refine uw ?_
 by_cases h8:k=8
 ·have y:=iS h8
  have e:frK k=3:=gZ h8
  rw[e]
  refine vI ?_
  refine hk.use ?_
  by_cases hd:kd=3
  ·have z:=iS hd
   rw[jy hd]
   try simp only[go_sem,seval,z,iT]
   exact Zs rfl
  ·exact ut
 ·have y:=iU h8
  have e:frK k=2:=ig h8
  rw[e]
  refine wz ?_
  refine hk.use ?_
  by_cases hd:kd=2
  ·have z:=iS hd
   rw[jy hd]
   try simp only[go_sem,seval,z,iT]
   exact Zs rfl
  ·exact ut
theorem FC(b:Nat)(ds:List Pd)(f:Fm)(q:Bool)(hc:Pur nC 156 [jdA ds,.agg f.emb] (vb q))(σ:Store)(g:σ.get b=some (.cells [.list .none 4 (df ds)])) :
 Zh nC 220 [.agg f.emb,.val (.pointer (some ⟨b,0,none⟩))] σ (ZP (vb (!q)) σ):=by
 obtain⟨k,s,a,⟨ts,tl⟩,l⟩:=f
 simp only[cM,jdA] at hc ⊢
 refine Zb [] [] Tryz.func220 rfl xy ?_;rw[Tryz.ntmps220,Tryz.results220]
 exact ui
theorem Gg(ds:List Pd)(k:Int)(s:Str)(a:List Tm)(ts:Str)(tl:List Ty)(l:List Fm)(hs:Xy (.mk k s a (.mk ts tl) l)=true)
 (ih:∀ g∈l,Pur nC 156 [jdA ds,.agg g.emb] (vb (plS ds g))/\Pur nC 91 [jdA ds,.agg g.emb] (vb (clS ds g))) :
 Pur nC 91 [jdA ds,.agg (Fm.mk k s a (.mk ts tl) l).emb] (vb (clS ds (.mk k s a (.mk ts tl) l))):=by
 intro σ
 have hl:=X6 hs
 clear hs
 have hk:=WC ds (.mk k s a (.mk ts tl) l)
 simp only[kdF] at hk
 generalize hx:UN ds k s=kd at hk
 have y1:k=1\/k≠1:=Decidable.em _
 rcases y1 with k1|k1
 ·have e:clS ds (.mk k s a (.mk ts tl) l)=decide (kd=1):=by simp only[clS,gZ k1,hx]
  rw[e]
  have y:=iS k1
  simp only[cM,jdA] at hk ⊢
  refine Zb [] [(5,12,0),(7,5,0),(10,12,0)] Tryz.func91 rfl xy ?_;rw[mY,mZ]
  refine vI ?_
  refine hk.use ?_
  exact pz
 clear hk
 have y1:=iU k1
 by_cases k5:k=5
 ·have e:clS ds (.mk k s a (.mk ts tl) l)=ah ds l:=by simp only[clS,ig k1,gZ k5]
  have ez:W3 k=2:=by rw[k5];rfl
  obtain⟨g,h,rfl⟩:=XI (ez.symm.trans hl)
  rw[e]
  simp only[ah]
  have h1:=(ih g xf).2
  have h2:=(ih h xf).2
  have y5:=iS k5
  clear ih e
  generalize clS ds g=q1 at h1 ⊢
  generalize clS ds h=q2 at h2 ⊢
  obtain⟨gk,gs,ga,⟨gt,gu⟩,gl⟩:=g
  obtain⟨hk,hs,ha,⟨ht,hu⟩,hl⟩:=h
  simp only[cM,cN,iR,kI,jdA] at h1 h2 ⊢
  refine Zb [] [(5,12,0),(7,5,0),(10,12,0)] Tryz.func91 rfl xy ?_;rw[mY,mZ]
  try simp only[go_sem,seval,y1,y5,iT,iV,jq,jr,jt]
  exact tN
 have y5:=iU k5
 by_cases k10:k=10
 ·have e:clS ds (.mk k s a (.mk ts tl) l)=ai ds l:=by simp only[clS,ig k1,ig k5,gZ k10]
  have ez:W3 k=1:=by rw[k10];rfl
  obtain⟨g,rfl⟩:=X8 (ez.symm.trans hl)
  rw[e]
  simp only[ai]
  have h1:=(ih g xf).2
  have y10:=iS k10
  clear ih e
  generalize clS ds g=q1 at h1 ⊢
  obtain⟨gk,gs,ga,⟨gt,gu⟩,gl⟩:=g
  simp only[cM,cN,iR,kI,jdA] at h1 ⊢
  refine Zb [] [(5,12,0),(7,5,0),(10,12,0)] Tryz.func91 rfl xy ?_;rw[mY,mZ]
  try simp only[go_sem,seval,y1,y5,y10,iT,iV,jq,jr,jt]
  exact uh
 have y10:=iU k10
 by_cases k78:k=7\/k=8
 ·have e:clS ds (.mk k s a (.mk ts tl) l)=aj ds l:=by simp only[clS,ig k1,ig k5,ig k10,gZ k78]
  have ez:W3 k=2:=by rcases k78 with h|h<;>rw[h]<;>rfl
  obtain⟨g,h,rfl⟩:=XI (ez.symm.trans hl)
  rw[e]
  simp only[aj]
  have h1:=(ih g xf).1
  have h2:=(ih h xf).2
  clear ih e
  generalize plS ds g=q1 at h1 ⊢
  generalize clS ds h=q2 at h2 ⊢
  obtain⟨gk,gs,ga,⟨gt,gu⟩,gl⟩:=g
  obtain⟨hk,hs,ha,⟨ht,hu⟩,hl⟩:=h
  simp only[cM,cN,iR,kI,jdA] at h1 h2 ⊢
  refine Zb [] [(5,12,0),(7,5,0),(10,12,0)] Tryz.func91 rfl xy ?_;rw[mY,mZ]
  by_cases k7:k=7
  ·have y7:=iS k7
   try simp only[go_sem,seval,y1,y5,y10,y7,iT,iV,jq,jr,jt]
   exact tN
  ·have y7:=iU k7
   have y8:=iS (k78.resolve_left k7)
   try simp only[go_sem,seval,y1,y5,y10,y7,y8,iT,iV,jq,jr,jt]
   exact tN
 have y7:(k=7)=False:=iU fun h=>k78 (.inl h)
 have y8:(k=8)=False:=iU fun h=>k78 (.inr h)
 have e:clS ds (.mk k s a (.mk ts tl) l)=false:=by simp only[clS,ig k1,ig k5,ig k10,ig k78]
 rw[e]
 simp only[cM,jdA]
 refine Zb [] [(5,12,0),(7,5,0),(10,12,0)] Tryz.func91 rfl xy ?_;rw[mY,mZ]
 try simp only[go_sem,seval,y1,y5,y10,y7,y8,iT,iV,jq,jr,jt]
 exact Zl
theorem FB(ds:List Pd)(k:Int)(s:Str)(a:List Tm)(ts:Str)(tl:List Ty)(l:List Fm)(hs:Xy (.mk k s a (.mk ts tl) l)=true)
 (ih:∀ g∈l,Pur nC 156 [jdA ds,.agg g.emb] (vb (plS ds g))/\Pur nC 91 [jdA ds,.agg g.emb] (vb (clS ds g))) :
 Pur nC 156 [jdA ds,.agg (Fm.mk k s a (.mk ts tl) l).emb] (vb (plS ds (.mk k s a (.mk ts tl) l))):=by
 intro σ
 have hl:=X6 hs
 clear hs
 have hk:=WC ds (.mk k s a (.mk ts tl) l)
 simp only[kdF] at hk
 generalize hx:UN ds k s=kd at hk
 have y1:k=1\/k≠1:=Decidable.em _
 rcases y1 with k1|k1
 ·have e:plS ds (.mk k s a (.mk ts tl) l)=(decide (kd=1) || decide (kd=2) || decide (kd=3)):=by simp only[plS,gZ k1,hx]
  rw[e]
  have y:=iS k1
  simp only[cM,jdA] at hk ⊢
  refine Zb [2] [(10,14,0)] ng rfl xy ?_;rw[nh,nk]
  refine uw ?_
  intro b2 hb2
  refine vI ?_
  refine hk.use ?_
  by_cases d1:kd=1
  ·have z1:=iS d1
   try simp only[go_sem,seval,z1,iT]
   (try simp only[jz,jS,ky,ja,kz,kA,iT,iV,d1,d2]);exact Zz (.refl _) (.cons _ _)
  ·have z1:=iU d1
   by_cases d2:kd=2
   ·have z2:=iS d2
    try simp only[go_sem,seval,z1,z2,iT,iV]
    (try simp only[jz,jS,ky,ja,kz,kA,iT,iV,d1,d2]);exact Zz (.refl _) (.cons _ _)
   ·have z2:=iU d2
    try simp only[go_sem,seval,z1,z2,iV]
    (try simp only[jz,jS,ky,ja,kz,kA,iT,iV,d1,d2]);exact Zz (.refl _) (.cons _ _)
 clear hk
 have y1:=iU k1
 by_cases k23:k=2\/k=3
 ·have e:plS ds (.mk k s a (.mk ts tl) l)=true:=by simp only[plS,ig k1,gZ k23]
  rw[e]
  simp only[cM,jdA]
  refine Zb [2] [(10,14,0)] ng rfl xy ?_;rw[nh,nk]
  refine uw ?_
  intro b2 hb2
  by_cases k2:k=2
  ·have y2:=iS k2
   try simp only[go_sem,seval,y1,y2,iT,iV,jq,jr,jt]
   exact oW
  ·have y2:=iU k2
   have y3:=iS (k23.resolve_left k2)
   try simp only[go_sem,seval,y1,y2,y3,iT,iV,jq,jr,jt]
   exact oW
 have y2:(k=2)=False:=iU fun h=>k23 (.inl h)
 have y3:(k=3)=False:=iU fun h=>k23 (.inr h)
 by_cases k78:k=7\/k=8
 ·have e:plS ds (.mk k s a (.mk ts tl) l)=Am ds k l:=by simp only[plS,ig k1,ig k23,gZ k78]
  have ez:W3 k=2:=by rcases k78 with h|h<;>rw[h]<;>rfl
  obtain⟨g,h,rfl⟩:=XI (ez.symm.trans hl)
  rw[e]
  simp only[Am]
  have h1:=Iy ds k g _ (ih g xf).2
  have h2:=(ih h xf).1
  clear ih e
  generalize(decide (kdF ds g=frK k) || clS ds g)=q1 at h1 ⊢
  generalize plS ds h=q2 at h2 ⊢
  obtain⟨gk,gs,ga,⟨gt,gu⟩,gl⟩:=g
  obtain⟨hk,hs,ha,⟨ht,hu⟩,hl⟩:=h
  simp only[cM,cN,iR,kI,jdA] at h1 h2 ⊢
  refine Zb [2] [(10,14,0)] ng rfl xy ?_;rw[nh,nk]
  refine uw ?_
  intro b2 hb2
  by_cases k7:k=7
  ·have y7:=iS k7
   try simp only[go_sem,seval,y1,y2,y3,y7,iT,iV,jq,jr,jt]
   exact pH
  ·have y7:=iU k7
   have y8:=iS (k78.resolve_left k7)
   try simp only[go_sem,seval,y1,y2,y3,y7,y8,iT,iV,jq,jr,jt]
   exact pH
 have y7:(k=7)=False:=iU fun h=>k78 (.inl h)
 have y8:(k=8)=False:=iU fun h=>k78 (.inr h)
 by_cases k12:k=12
 ·have e:plS ds (.mk k s a (.mk ts tl) l)=false:=by simp only[plS,ig k1,ig k23,ig k78,gZ k12]
  rw[e]
  have y12:=iS k12
  simp only[cM,jdA]
  refine Zb [2] [(10,14,0)] ng rfl xy ?_;rw[nh,nk]
  refine uw ?_
  intro b2 hb2
  try simp only[go_sem,seval,y1,y2,y3,y7,y8,y12,iT,iV,jq,jr,jt]
  exact oW
 have y12:=iU k12
 have e:plS ds (.mk k s a (.mk ts tl) l)=!(l.any fun g=>!plS ds g):=by simp only[plS,ig k1,ig k23,ig k78,ig k12,Ha]
 rw[e]
 simp only[cM,jdA]
 refine Zb [2] [(10,14,0)] ng rfl xy ?_;rw[nh,nk]
 refine uw ?_
 intro b2 hb2
 have ha:=Jq ((b2,.cells [.list .none 4 (df ds)])::σ) l .none 6 (.inl rfl) (.func (.func 220) #[] #[.pointer (some ⟨b2,0,none⟩)]) (fun g=>!plS ds g) (fun d hd=>by rw[Z4];exact FC b2 ds d _ (ih d hd).1 _ (Ze _ _ _))
 generalize(l.any fun g=>!plS ds g)=q at ha ⊢
 try simp only[go_sem,seval,y1,y2,y3,y7,y8,y12,iT,iV,jq,jr,jt]
 refine ha.only' ?_
 exact tT
theorem Kv(ds:List Pd):∀ f:Fm,Xy f=true->Pur nC 156 [jdA ds,.agg f.emb] (vb (plS ds f))/\Pur nC 91 [jdA ds,.agg f.emb] (vb (clS ds f)):=by
 intro f
 induction f using eg with|h k s a ty l ih=>?_
 intro hs
 obtain⟨ts,tl⟩:=ty
 have ih':=fun g hg=>ih g hg (X5 hs g hg)
 exact⟨FB ds k s a ts tl l hs ih',Gg ds k s a ts tl l hs ih'⟩
end Go.Vx
end
section
namespace Go.Vx
open Go.Proofs Go.RowKit
mutual
def ydS(ds:List Pd)(e:Bool):Fm->Bool
 | .mk k s a t l=>if k=1 then decide (UN ds k s=2) else if k=9 then L2 ds l else if k=2 then true else if k=3 then e else if k=4 then B8 ds e l else if k=11 then B9 ds e l else false
def B8(ds:List Pd)(e:Bool):List Fm->Bool
 | g::h::_=>ydS ds e g&&ydS ds e h
 | _=>false
def B9(ds:List Pd)(e:Bool):List Fm->Bool
 | g::_=>ydS ds e g
 | _=>false
def L2(ds:List Pd):List Fm->Bool
 | g::_=>decide (kdF ds g=3)
 | _=>false
end
theorem JO(ds:List Pd)(en:Bool):∀ f:Fm,Xy f=true->Pur nC 161 [jdA ds,.agg f.emb,vb en] (vb (ydS ds en f)):=by
 intro f
 induction f using eg with|h k s a ty l ih=>?_
 intro hs
 obtain⟨ts,tl⟩:=ty
 intro σ
 have hl:=X6 hs
 replace ih:=fun g hg=>ih g hg (X5 hs g hg)
 clear hs
 have hk:=WC ds (.mk k s a (.mk ts tl) l)
 simp only[kdF] at hk
 generalize hx:UN ds k s=kd at hk
 by_cases k1:k=1
 ·have e:ydS ds en (.mk k s a (.mk ts tl) l)=decide (kd=2):=by simp only[ydS,gZ k1,hx]
  rw[e]
  have y:=iS k1
  simp only[cM,jdA] at hk ⊢
  refine Zb [] [(5,5,0),(11,14,0),(13,6,0)] nr rfl xy ?_;rw[ns,nu]
  refine vI ?_
  refine hk.use ?_
  exact pz
 clear hk
 have y1:=iU k1
 by_cases k9:k=9
 ·have e:ydS ds en (.mk k s a (.mk ts tl) l)=L2 ds l:=by simp only[ydS,ig k1,gZ k9]
  have ez:W3 k=1:=by rw[k9];rfl
  obtain⟨g,rfl⟩:=X8 (ez.symm.trans hl)
  rw[e]
  simp only[L2]
  have h1:=WC ds g
  have y9:=iS k9
  clear ih e
  generalize kdF ds g=q1 at h1 ⊢
  obtain⟨gk,gs,ga,⟨gt,gu⟩,gl⟩:=g
  simp only[cM,cN,iR,kI,jdA] at h1 ⊢
  refine Zb [] [(5,5,0),(11,14,0),(13,6,0)] nr rfl xy ?_;rw[ns,nu]
  try simp only[go_sem,seval,y1,y9,iT,iV,jq,jr,jt]
  exact uh
 have y9:=iU k9
 by_cases k2:k=2
 ·have e:ydS ds en (.mk k s a (.mk ts tl) l)=true:=by simp only[ydS,ig k1,ig k9,gZ k2]
  rw[e]
  have y2:=iS k2
  simp only[cM,jdA]
  refine Zb [] [(5,5,0),(11,14,0),(13,6,0)] nr rfl xy ?_;rw[ns,nu]
  try simp only[go_sem,seval,y1,y9,y2,iT,iV]
  exact Zl
 have y2:=iU k2
 by_cases k3:k=3
 ·have e:ydS ds en (.mk k s a (.mk ts tl) l)=en:=by simp only[ydS,ig k1,ig k9,ig k2,gZ k3]
  rw[e]
  have y3:=iS k3
  simp only[cM,jdA]
  refine Zb [] [(5,5,0),(11,14,0),(13,6,0)] nr rfl xy ?_;rw[ns,nu]
  try simp only[go_sem,seval,y1,y9,y2,y3,iT,iV]
  exact Zl
 have y3:=iU k3
 by_cases k4:k=4
 ·have e:ydS ds en (.mk k s a (.mk ts tl) l)=B8 ds en l:=by simp only[ydS,ig k1,ig k9,ig k2,ig k3,gZ k4]
  have ez:W3 k=2:=by rw[k4];rfl
  obtain⟨g,h,rfl⟩:=XI (ez.symm.trans hl)
  rw[e]
  simp only[B8]
  have h1:=ih g xf
  have h2:=ih h xf
  have y4:=iS k4
  clear ih e
  generalize ydS ds en g=q1 at h1 ⊢
  generalize ydS ds en h=q2 at h2 ⊢
  obtain⟨gk,gs,ga,⟨gt,gu⟩,gl⟩:=g
  obtain⟨hk,hs,ha,⟨ht,hu⟩,hl⟩:=h
  simp only[cM,cN,iR,kI,jdA] at h1 h2 ⊢
  refine Zb [] [(5,5,0),(11,14,0),(13,6,0)] nr rfl xy ?_;rw[ns,nu]
  try simp only[go_sem,seval,y1,y9,y2,y3,y4,iT,iV,jq,jr,jt]
  exact tN
 have y4:=iU k4
 by_cases k11:k=11
 ·have e:ydS ds en (.mk k s a (.mk ts tl) l)=B9 ds en l:=by simp only[ydS,ig k1,ig k9,ig k2,ig k3,ig k4,gZ k11]
  have ez:W3 k=1:=by rw[k11];rfl
  obtain⟨g,rfl⟩:=X8 (ez.symm.trans hl)
  rw[e]
  simp only[B9]
  have h1:=ih g xf
  have y11:=iS k11
  clear ih e
  generalize ydS ds en g=q1 at h1 ⊢
  obtain⟨gk,gs,ga,⟨gt,gu⟩,gl⟩:=g
  simp only[cM,cN,iR,kI,jdA] at h1 ⊢
  refine Zb [] [(5,5,0),(11,14,0),(13,6,0)] nr rfl xy ?_;rw[ns,nu]
  try simp only[go_sem,seval,y1,y9,y2,y3,y4,y11,iT,iV,jq,jr,jt]
  exact uh
 have y11:=iU k11
 have e:ydS ds en (.mk k s a (.mk ts tl) l)=false:=by simp only[ydS,ig k1,ig k9,ig k2,ig k3,ig k4,ig k11]
 rw[e]
 simp only[cM,jdA]
 refine Zb [] [(5,5,0),(11,14,0),(13,6,0)] nr rfl xy ?_;rw[ns,nu]
 try simp only[go_sem,seval,y1,y9,y2,y3,y4,y11,iT,iV]
 exact Zl
mutual
def hbS:Tm->Int->Bool
 | .mk k n s l,m=>(decide (k=2)&&decide (n=m)) || Iu l (if k=5 then IntKind.i64.wrap (m+1) else m)
def Iu:List Tm->Int->Bool
 | [],_=>false
 | t::r,m=>hbS t m || Iu r m
end
theorem HT(l:List Tm)(m:Int):Iu l m=l.any fun t=>hbS t m:=by
 induction l with
 | nil=>rfl
 | cons a r ih=>simp only[Iu,mX,ih]
theorem M9(b:Nat)(m:Int)(t:Tm)(q:Bool)(hc:Pur nC 160 [.agg t.emb,vi m] (vb q))(σ:Store)(g:σ.get b=some (.cells [vi m])) :
 Zh nC 221 [.agg t.emb,.val (.pointer (some ⟨b,0,none⟩))] σ (ZP (vb q) σ):=by
 obtain⟨k,n,s,l⟩:=t
 simp only[cO] at hc ⊢
 refine Zb [] [] Tryz.func221 rfl xy ?_;rw[Tryz.ntmps221,Tryz.results221]
 exact ui
theorem K0:∀ (t:Tm) (m:Int),Pur nC 160 [.agg t.emb,vi m] (vb (hbS t m)):=by
 intro t
 induction t using ed with|h k n s l ih=>?_
 intro m σ
 have e:hbS (.mk k n s l) m=((decide (k=2)&&decide (n=m)) || l.any fun t=>hbS t (if k=5 then IntKind.i64.wrap (m+1) else m)):=by simp only[hbS,HT]
 rw[e]
 have ha:∀ (b:Nat) (m':Int) (S:Store),S.get b=some (.cells [vi m'])->Zh nC 146 [.list .none 4 (cJ l),.val (.func (.func 221) #[] #[.pointer (some ⟨b,0,none⟩)])] S (ZP (vb (l.any fun t=>hbS t m')) S):=fun b m' S g =>
  TX S l .none 4 (.inl rfl) _ _ (fun d hd=>by rw[Z4];exact M9 b m' d _ (ih d hd m') _ g)
 clear ih e
 simp only[cO]
 refine Zb [3] [] Tryz.func160 rfl xy ?_;rw[Tryz.ntmps160,Tryz.results160]
 refine uw ?_
 intro b3 hb3
 by_cases k2:k=2
 ·have y2:=iS k2
  by_cases hn:n=m
  ·have yn:=iS hn
   rw[jy k2,jy hn,jz,ky]
   try simp only[go_sem,seval,y2,yn,iT,iV]
   exact oW
  ·have yn:=iU hn
   have y5:(k=5)=False:=iU xh
   rw[jy k2,jY hn,jz,ja,ig (by omega:¬ k=5)]
   try simp only[go_sem,seval,y2,yn,y5,iT,iV]
   refine(ha b3 _ _ (Ze _ _ _)).only' ?_
   exact tT
 ·have y2:=iU k2
  rw[jY k2,jS,ja]
  by_cases k5:k=5
  ·have y5:=iS k5
   rw[gZ k5]
   exact uv
  ·have y5:=iU k5
   rw[ig k5]
   exact uv
end Go.Vx
end
section
namespace Go.Vx
open Go.Proofs Go.RowKit
theorem TV{l:List Bool}{i:Nat}{b:Bool}(h:l[i]?=some b):((l.map vb).drop (i * 1)).head?=some (vb b):=by
 rw[jC,lN,jp,h];rfl
theorem Eo(l:List Bool)(x:Bool)(b:Nat)(σ:Store)(hl:l.length<=1000000)(g:σ.get b=some (.cells (l.map vb))):Zh nC 222 [.val (.slice (some ⟨b,0,none⟩) l.length l.length),vb x] σ (fun r σ'=>∃ n:Int,(decide (n>=0)=l.contains x)/\r=.ret (vi n)/\σ'=σ):=by
 refine Zb [] [] Tryz.func222 rfl xy ?_;rw[Tryz.ntmps222,Tryz.results222]
 refine uw ?_
 refine uP ?_
 rintro i ⟨hi,hb⟩
 refine uB fun x0=>?_
 by_cases c:i<l.length
 ·have x1:((i:Int)<(l.length:Int))=True:=iS xh
  obtain⟨y,hy⟩:∃ y,l[i]?=some y:=⟨l[i],iO c⟩
  have hr:=TV hy
  try simp only[go_sem,seval,x0,x1,g,hr,iF,jt,iT]
  by_cases e:x=y
  ·subst e
   cases x<;>try simp only[go_sem,seval]<;>exact .mk (.refl _) (.refl _) ⟨_,by rw[List.contains_iff_mem.2 (iG hy)];simp,rfl,rfl⟩
  ·refine vz fun hw64=>?_
   have hn:∀ j:Nat,j<i+1->l[j]?≠some x:=fun j hj=>by
    exact sL
   clear hy hr hb
   cases x<;>cases y<;>first|exact absurd rfl e|(try simp only[go_sem,seval,hw64];exact .mk (i+1) ⟨by omega,hn⟩ xh ⟨.refl _,trivial⟩ yS (.refl _))
 ·have x1:((i:Int)<(l.length:Int))=False:=iU xh
  try simp only[go_sem,seval,x0,x1,iV]
  refine .mk (.refl _) (.refl _) ⟨_,?_,rfl,rfl⟩
  have:l.contains x=false:=by
   rw[Bool.eq_false_iff]
   intro h
   rw[mK] at h
   obtain⟨j,hj,hx⟩:=iN h
   exact sV
  rw[this];decide
theorem Lq(l:List Bool)(x:Bool)(b:Nat)(σ:Store)(hl:l.length<=1000000)(g:σ.get b=some (.cells (l.map vb))):Zh nC 162 [.val (.slice (some ⟨b,0,none⟩) l.length l.length),vb x] σ (ZP (vb (l.contains x)) σ):=by
 have hi:=Eo l x b σ hl g
 refine Zb [] [] Tryz.func162 rfl xy ?_;rw[Tryz.ntmps162,Tryz.results162]
 refine uw ?_
 refine hi.mono ?_
 rintro r _ ⟨n,hn,rfl,rfl⟩
 rw[<- hn]
 exact oG
def mxS(a:List Tm)(j:Nat)(m:List Bool):List Bool:=m.mapIdx fun i b=>if i<j then b || a.any (fun t=>hbS t i) else b
theorem MJ(a:List Tm)(m:List Bool):mxS a 0 m=m:=by
 unfold mxS
 refine ml fun i=>?_
 simp
theorem U5(a:List Tm)(j:Nat)(m:List Bool):(mxS a j m).length=m.length:=by simp[mxS]
theorem Ig{a:List Tm}{j:Nat}{m:List Bool}{b:Bool}(h:m[j]?=some b):(mxS a j m)[j]?=some b:=by simp[mxS,h]
theorem ML{a:List Tm}{j:Nat}{m:List Bool}{b:Bool}(h:m[j]?=some b):(mxS a j m).set j (b || a.any (fun t=>hbS t j))=mxS a (j+1) m:=by
 unfold mxS
 refine ml fun i=>?_
 obtain⟨hj,hb⟩:=List.getElem?_eq_some_iff.1 h
 rw[List.getElem?_set]
 by_cases e:j=i
 ·subst e
  simp[hj,hb]
 ·rw[ig e,List.getElem?_mapIdx,List.getElem?_mapIdx]
  cases m[i]? with
  | none=>rfl
  | some y =>
    have:(i<j)=(i<j+1):=by refine propext ⟨fun h=>by omega,fun h=>by omega⟩
    simp only[this]
theorem RE(l:List Bool)(j:Nat)(b:Bool)(h:j<l.length):Yn (l.map vb) j [vb b]=(l.set j b).map vb:=by
 unfold Yn
 rw[List.map_set,List.set_eq_take_append_cons_drop,gZ xJ]
 simp
mutual
def alF:Fm->Fm×Nat
 | .mk k s a t l=>if k=10 then alG l (.mk k s a t l) else(.mk k s a t l,0)
def alG:List Fm->Fm->Fm×Nat
 | g::_,_=>((alF g).1,(alF g).2+1)
 | [],f=>(f,0)
end
def rlM(ds:List Pd):List Fm->Bool
 | g::_=>ydS ds false g
 | []=>false
def RR:Fm->List Tm
 | .mk _ _ a _ _=>a
mutual
def rlS(ds:List Pd):Fm->List Bool->Bool->Bool
 | .mk k s a t l,m,q=>if k=7\/k=8 then rlT ds k l m else q&&decide (k=12)&&rlM ds l&&!m.contains false
def rlT(ds:List Pd):Int->List Fm->List Bool->Bool
 | k,g::h::_,m=>decide (kdF ds g=frK k)&&rlS ds h (mxS (RR g) m.length m) true
 | _,_,_=>false
end
def C8(ds:List Pd)(f:Fm):Bool:=rlS ds (alF f).1 (List.replicate (alF f).2 false) false
theorem dp_kid{k:Int}{s:Str}{a:List Tm}{t:Ty}{l:List Fm}{n:Nat}(h:dpB (Fm.mk k s a t l).shape n=false):∃ m,n=m+1/\∀ g∈l,dpB g.shape m=false:=by
 obtain⟨ts,tl⟩:=t
 cases n with
 | zero=>simp only[Fm.shape,dpB] at h;exact absurd h xj
 | succ m =>
   refine⟨m,rfl,fun g hg=>?_⟩
   simp only[Fm.shape,dpB,Q0,jW,dI,List.any_map,nw] at h
   have h2:=h.2
   rw[List.any_eq_false] at h2
   exact Bool.eq_false_iff.2 (h2 g hg)
open Go.Proofs Go.RowKit
theorem cy{P:nE}{t e by_:nF}{n:Int}{z:nG}{σ:Store}{K:ZE->Store->Prop}(h1:Yf P t=some e)(h2:Zy P e=some z)(h3:ZY P e=some by_)(h4:ZB P e=some 1)(h0:0<=n)(h5:by_<=512)(h6:n<=137438953472)(h7:z.cells.size=1)(h8:z.oneCell'=true)
 (k:∀ b,Zm σ b->K (.ret (.val (.slice (some ⟨b,0,none⟩) n.toNat n.toNat))) ((b,.cells (List.replicate n.toNat (dq z)))::σ)):Wr P true t (.val (.int .i64 n)) (.val (.int .i64 n)) σ K:=by
 unfold Wr
 simp only[h1,h2,h3,h4]
 exact⟨trivial,h0,h5,by simp only[lim];omega,h7,h8,k⟩
theorem J6(b:Nat)(m:Int)(t:Tm)(σ:Store)(g:σ.get b=some (.cells [vi m])) :
 Zh nC 159 [.agg t.emb,.val (.pointer (some ⟨b,0,none⟩))] σ (ZP (vb (hbS t m)) σ):=by
 have hc:=K0 t m
 generalize hbS t m=q at hc ⊢
 obtain⟨k,n,s,l⟩:=t
 simp only[cO] at hc ⊢
 refine Zb [] [] Tryz.func159 rfl xy ?_;rw[Tryz.ntmps159,Tryz.results159]
 exact ui
theorem Aj(ds:List Pd)(f:Fm)(hs:Xy f=true)(hd:dpB f.shape 100=false):Pur nC 95 [jdA ds,.agg f.emb] (vb (C8 ds f)):=by
 intro σ
 refine Zh.nodup xy (fun hnd=>?_)
 have hr0:C8 ds f=rlS ds (alF f).1 (List.replicate (alF f).2 false) false:=rfl
 rw[hr0]
 have hf0:∃ f0,f0=f:=⟨_,rfl⟩
 obtain⟨f0,hf0⟩:=hf0
 rw[<- hf0] at hs hd ⊢
 have he:(Fm.emb f)=(Fm.emb f):=rfl
 obtain⟨k0,s0,a0,⟨t0,u0⟩,l0⟩:=f
 have he:f0.emb=[vi k0,vs s0,.list .none 4 (cJ a0),vs t0,.list .none 2 (cI u0),.list .none 6 (cN l0)]:=by rw[hf0];simp only[cM]
 rw[he]
 simp only[jdA]
 refine Zb [3,20] [(12,7,0),(17,15,0),(20,13,0)] Tryz.func95 rfl xy ?_;rw[Tryz.ntmps95,Tryz.results95]
 refine uw ?_
 intro b3 hb3
 refine uw ?_
 refine Zp (mu:=[3,20]) (dr:=[(12,7,0),(17,15,0),(20,13,0)]) [5,10,11,12,13,14,15,16,17,18] (fun x:Fm×Nat=>[(5,vi x.2)]) (fun x=>(b3,.cells x.1.emb)::σ)
  (fun x=>alF f0=((alF x.1).1,x.2+(alF x.1).2)/\Xy x.1=true/\x.2<=100/\dpB x.1.shape (100-x.2)=false) (fun x=>SizeOf.sizeOf x.1) (f0,0) xy ⟨by simp,hs,by omega,hd⟩ ⟨.refl _,trivial⟩ (by rw[he];exact .refl _) ?_
 rintro⟨⟨k,s,a,⟨ts,tl⟩,l⟩,n⟩ ⟨i1,i2,i3,i4⟩
 dsimp only at i1 i2 i3 i4 ⊢
 simp only[cM]
 by_cases k10:k=10
 ·have y:=iS k10
  obtain⟨m,hm,hk⟩:=dp_kid i4
  have ez:W3 k=1:=by rw[k10];rfl
  obtain⟨g,rfl⟩:=X8 (ez.symm.trans (X6 i2))
  have e:alF (.mk k s a (.mk ts tl) [g])=((alF g).1,(alF g).2+1):=by simp only[alF,gZ k10,alG]
  rw[e] at i1
  have g1:=X5 i2 g xf
  have g2:=hk g xf
  have hw:IntKind.i64.wrap ((n:Int)+1)=((n+1:Nat):Int):=Zk xh xh
  have hsz:SizeOf.sizeOf g<SizeOf.sizeOf (Fm.mk k s a (.mk ts tl) [g]):=by simp;omega
  clear i2 i4 hk e ez he hd hs hr0
  obtain⟨gk,gs,ga,⟨gt,gu⟩,gl⟩:=g
  simp only[cM,cN,iR,kI]
  try simp only[go_sem,seval,y,hw,iT,iV,jq,jr,jt]
  refine .mk (.mk gk gs ga (.mk gt gu) gl,n+1) ⟨by rw[i1];simp;omega,g1,by omega,by rw[show 100-(n+1)=m by omega];exact g2⟩ hsz ⟨.refl _,trivial⟩ yS (.refl _)
 have y:=iU k10
 have e:alF (.mk k s a (.mk ts tl) l)=(.mk k s a (.mk ts tl) l,0):=by simp only[alF,ig k10]
 rw[e] at i1
 rw[i1]
 clear i1 e hr0 he hf0 hs hd f0
 try simp only[go_sem,seval,y,iT,iV]
 refine cy (z:=.bool false) (e:=4) (by_:=1) xy xy xy xy xh xj xh rfl rfl ?_
 intro bm hbm
 rw[iF,show dq (.bool false)=vb false from rfl]
 refine uw ?_
 have f3:Zm σ b3:=hb3
 have fm:Zm σ bm:=hbm.2
 have n3m:b3≠bm:=hbm.1
 have nm3:=iC n3m
 have e0:Fm.emb (.mk k s a (.mk ts tl) l)=[vi k,vs s,.list .none 4 (cJ a),vs ts,.list .none 2 (cI tl),.list .none 6 (cN l)]:=by simp only[cM]
 rw[<- e0]
 generalize Fm.mk k s a (.mk ts tl) l=f1 at i2 i4 ⊢
 clear e0 y
 generalize hm0:List.replicate n false=m0
 have hl0:m0.length=n:=by rw[<- hm0];simp
 have hm1:List.replicate n (vb false)=m0.map vb:=by rw[<- hm0];simp
 rw[hm1]
 clear hm1 hm0
 refine Zp (mu:=[3,20]) (dr:=[(12,7,0),(17,15,0),(20,13,0)]) [4,7,8,9,21,22,23,24,25,26,27,28,29,30,31,32,33,34,35,36,37,38,39,40,41,42,43,44,45,46,47,48,49,50,51,52,53,54,55,56,57,58,59,60,61,62,63,64,65,66,67] (fun x:Fm×List Bool×Nat×Store=>[(7,vi x.2.2.1)]) (fun x=>x.2.2.2)
  (fun x=>rlS ds f1 m0 false=rlS ds x.1 x.2.1 (decide (0<x.2.2.1))/\Xy x.1=true/\x.2.1.length=n/\(∃ d,n+x.2.2.1+d=100/\dpB x.1.shape d=false)/\x.2.2.2.get b3=some (.cells x.1.emb)/\x.2.2.2.get bm=some (.cells (x.2.1.map vb))/\Has σ x.2.2.2)
  (fun x=>SizeOf.sizeOf x.1) (f1,m0,0,_) xy ⟨by simp,i2,hl0,⟨100-n,by dsimp only;omega,i4⟩,by simp[Store.get,nm3,n3m],Ze _ _ _,((Has.refl σ).cons _).cons _⟩ ⟨.refl _,trivial⟩ (.refl _) ?_
 rintro⟨⟨k,s,a,⟨ts,tl⟩,l⟩,m,kc,S⟩ ⟨j1,j2,j3,⟨d,hd,j4⟩,g3,gm,jH⟩
 dsimp only at j1 j2 j3 hd j4 g3 gm jH ⊢
 rw[j1]
 clear j1 i2 i4 hl0
 simp only[cM] at g3
 by_cases k78:k=7\/k=8
 ·have ez:W3 k=2:=by rcases k78 with h|h<;>rw[h]<;>rfl
  obtain⟨g,h,rfl⟩:=XI (ez.symm.trans (X6 j2))
  obtain⟨d',rfl,hkd⟩:=dp_kid j4
  have g1:=X5 j2 h xf
  have g2:=hkd h xf
  have e:rlS ds (.mk k s a (.mk ts tl) [g,h]) m (decide (0<kc))=(decide (kdF ds g=frK k)&&rlS ds h (mxS (RR g) m.length m) true):=by simp only[rlS,gZ k78,rlT]
  rw[e]
  have hk:=WC ds g
  have hsz:SizeOf.sizeOf h<SizeOf.sizeOf (Fm.mk k s a (.mk ts tl) [g,h]):=by simp;omega
  clear j2 j4 hkd e ez
  generalize kdF ds g=kd at hk ⊢
  obtain⟨gk,gs,ga,⟨gt,gu⟩,gl⟩:=g
  obtain⟨hk1,hs1,ha1,⟨ht1,hu1⟩,hl1⟩:=h
  simp only[RR]
  simp only[cM,cN,iR,kI,jdA] at hk g3
  have hw:IntKind.i64.wrap ((kc:Int)+1)=((kc+1:Nat):Int):=Zk xh xh
  by_cases k7:k=7
  ·have y7:=iS k7
   have y8:(k=8)=False:=iU xh
   have ef:frK k=2:=ig xh
   rw[ef]
   try simp only[go_sem,seval,g3,y7,y8,iT,iV,jq,jr,jt]
   refine hk.head ?_
   by_cases hkd:kd=2
   ·exact nY
   ·exact rJ
  ·have y7:=iU k7
   have y8:=iS (k78.resolve_left k7)
   have ef:frK k=3:=gZ (k78.resolve_left k7)
   rw[ef]
   try simp only[go_sem,seval,g3,y7,y8,iT,iV,jq,jr,jt]
   refine hk.head ?_
   by_cases hkd:kd=3
   ·exact nY
   ·exact rJ
 have y7:(k=7)=False:=iU fun h=>k78 (.inl h)
 have y8:(k=8)=False:=iU fun h=>k78 (.inr h)
 have e:rlS ds (.mk k s a (.mk ts tl) l) m (decide (0<kc))=(decide (0<kc)&&decide (k=12)&&rlM ds l&&!m.contains false):=by simp only[rlS,ig k78]
 rw[e]
 clear e
 by_cases hk0:0<kc
 ·have z0:((kc:Int) > 0)=True:=iS xh
  rw[jy hk0]
  by_cases k12:k=12
  ·have y12:=iS k12
   have ez:W3 k=1:=by rw[k12];rfl
   obtain⟨g,rfl⟩:=X8 (ez.symm.trans (X6 j2))
   have hy:=JO ds false g (X5 j2 g xf)
   have hcn:=Lq m false bm
   rw[jy k12]
   simp only[rlM,jz]
   generalize ydS ds false g=qy at hy ⊢
   generalize m.contains false=qc at hcn ⊢
   obtain⟨gk,gs,ga,⟨gt,gu⟩,gl⟩:=g
   simp only[cM,cN,iR,kI,jdA] at hy g3
   rw[j3] at hcn
   try simp only[go_sem,seval,g3,y7,y8,y12,z0,iT,iV,jq,jr,jt]
   refine hy.use ?_
   cases qy with
   | true =>
     refine uw ?_
     refine(hcn S xh gm).only' ?_
     refine uw ?_
     exact rK
   | false =>
     refine uw ?_
     exact rK
  ·have y12:=iU k12
   rw[jY k12]
   try simp only[go_sem,seval,g3,y7,y8,y12,z0,iT,iV]
   exact rK
 ·have z0:((kc:Int) > 0)=False:=iU xh
  rw[jY hk0]
  try simp only[go_sem,seval,g3,y7,y8,z0,iT,iV]
  exact rK
end Go.Vx
end
