/- A part of the proof of clausalSpinesProved. -/
import Derived.Test.YtllgjklcpieanaaGreatDoorR33
set_option linter.unusedVariables false
set_option linter.unusedSimpArgs false
set_option maxRecDepth 100000
namespace Go.Vx
open Go.Proofs
def Qz(l:List (List Int)):Nat:=l.foldr (fun p m=>max p.length m) 0
theorem Hl{l:List (List Int)}{p:List Int}(h:p∈l):p.length<=Qz l:=by
 induction l with
 | nil=>cases h
 | cons a r ih =>
   simp only[Qz,List.foldr_cons]
   rcases List.mem_cons.1 h with e|h
   ·rw[e];omega
   ·have:=ih h;simp only[Qz] at this;omega
def Bb(l:List (List Int)):Bool:=PO (Qz l+1) l
theorem AR(l:List (List Int))(hl:l≠[]):Pur nC 64 [.list .none 1 (Xd l)] (vb (Bb l)) :=
 bQ (Qz l+1) l hl (fun p hp=>by have:=Hl hp;omega)
def VI(f:Flat)(n:Int):Bool:=decide (n=-1) || (decide (0<=n)&&(match f.groups[n.toNat]? with|some u=>decide (u.env.length=0)|none=>false))
def TS(f:Flat)(i:Nat):Bool:=match f.groups[i]? with
 | some u=>!decide (u.alts.length=0)&&u.env.all Z1&&u.alts.all (Wx f i)&&Bb (u.alts.map Zr.path)
 | none=>false
def Pe(f:Flat):Bool:=decide (f.groups.length<=1000)&&decide (W9 f<=8000)&&f.rules.all (VI f)&&(List.range f.groups.length).all (TS f)
def NO(f:Flat):Int:=if Pe f then 0 else 220
theorem Pl{n:Nat}{P:Nat->Bool}:(List.range (n+1)).all P=((List.range n).all P&&P n):=by simp[List.range_succ]
theorem SC(f:Flat):Pur nC 27 [.agg f.emb] (vi (NO f)):=by
 intro σ
 refine Zh.nodup xy (fun hnd=>?_)
 refine Zh.ok xy (fun hok=>?_)
 have hf:=hok _ ir
 clear hok
 have hgr:=hf.agg (c:=.list .none 2 (cX f.groups)) xV
 have hlg:=hgr.len
 rw[cL] at hlg
 have hlr:=(hf.agg (c:=.list .none 1 (Zu f.rules)) xV).len
 rw[Z9] at hlr
 have hn:=CB f
 refine uI fun hw=>?_
 have hcl:=fun(i:Nat) (G:FGroup) (hG:f.groups[i]?=some G) (c:Zr)=>E6 f i G hG c
 simp only[Flat.emb] at hn hcl ⊢
 have bad:Pe f=false->NO f=220:=fun h=>by unfold NO;rw[h];rfl
 refine Zb [] [] Tryz.func27 rfl xy ?_;rw[Tryz.ntmps27,Tryz.results27]
 obtain⟨bg,fg⟩:∃ b,decide (1000<(f.groups.length:Int))=b:=⟨_,rfl⟩
 try simp only[go_sem,seval,cL,fg]
 cases bg with
 | true =>
   try simp only[go_sem,seval,cL]
   have h:¬ f.groups.length<=1000:=by have:=of_decide_eq_true fg;omega
   rw[bad (by unfold Pe;rw[jY h];simp)]
   exact Zl
 | false =>
   have hg0:f.groups.length<=1000:=by have:=of_decide_eq_false fg;omega
   try simp only[go_sem,seval,cL]
   refine hn.use ?_
   by_cases hnn:W9 f<=8000
   ·have e1:Ra f=W9 f:=by unfold Ra;rw[gZ hnn]
    rw[e1]
    have f1:(8000<(W9 f:Int))=False:=iU xh
    try simp only[go_sem,seval,f1,iV,Z9,cL]
    refine Zp (mu:=[]) (dr:=[]) [2,4,22,23,24,25,26,27,28,29,30,31,32,33,34,35,36,37,38,39,40,41,42,43,44,45,46,47,48,49] (fun i:Nat=>[(22,vi i)]) (fun _=>σ) (fun i=>i<=f.rules.length/\(f.rules.take i).all (VI f)=true) (fun i=>f.rules.length-i) 0 xy ⟨by omega,by simp⟩ ⟨.refl _,trivial⟩ (.refl _) ?_
    rintro i ⟨i1,i2⟩
    try simp only[go_sem,seval,Z9,cL]
    refine⟨fun h1=>⟨by omega,h1,fun c hc=>?_⟩,fun h1=>?_⟩
    ·rw[iF] at hc
     obtain⟨n,hn',rfl⟩:=Yi hc
     have hnx:(f.rules.take (i+1)).all (VI f)=VI f n:=by rw[jh,hn',jj,mQ,i2];simp
     have hrb:VI f n=false->NO f=220:=fun h=>bad (by
      have:f.rules.all (VI f)=false:=by
       rw[mR]
       exact⟨n,iG hn',by rw[h];simp⟩
      unfold Pe;rw[this];simp)
     by_cases n1:n=-1
     ·have q1:(n=-1)=True:=iS n1
      try simp only[go_sem,seval,q1,iT]
      have hr:VI f n=true:=by simp[VI,n1]
      exact qV
     ·have q1:(n=-1)=False:=iU n1
      by_cases n2:n<0
      ·have q2:(n<0)=True:=iS n2
       try simp only[go_sem,seval,q1,q2,iT,iV]
       rw [hrb (by have:¬ 0<=n:=by omega
                   simp[VI,n1,this])]
       exact Zl
      ·have q2:(n<0)=False:=iU n2
       by_cases n3:(f.groups.length:Int)<=n
       ·have q3:((f.groups.length:Int)<=n)=True:=iS n3
        try simp only[go_sem,seval,q1,q2,q3,iT,iV,cL]
        rw [hrb (by have:f.groups[n.toNat]?=none:=jE xh
                    simp[VI,n1,this])]
        exact Zl
       ·have q3:((f.groups.length:Int)<=n)=False:=iU n3
        try simp only[go_sem,seval,q1,q2,q3,iT,iV,cL]
        refine⟨by omega,by omega,fun c hc=>?_⟩
        obtain⟨u,hu,rfl⟩:=dS hc
        try simp only[go_sem,seval,q1,q2,q3,iT,iV,FGroup.emb,cG]
        refine⟨fun g1=>?_,fun g1=>?_⟩
        ·have n4:¬ u.env.length=0:=by omega
         rw[hrb (by simp only[VI,hu,jY n1,jY n4];simp)]
         exact Zl
        ·have n4:u.env.length=0:=by omega
         have hr:VI f n=true:=by simp only[VI,hu,jY n1,jy n4];simp;omega
         exact qV
    ·have hir:f.rules.take i=f.rules:=iW xh
     rw[hir] at i2
     try simp only[go_sem,seval,cL]
     refine Zp (mu:=[]) (dr:=[]) [2,5,6,7,9,53,54,55,56,57,58,59,60,61,62,63,64,65,66,67,68,69,70,71,72,73,74,75,76,77,78,79,80,81,82,83,84,85,86,87,88,89] (fun i:Nat=>[(53,vi i)]) (fun _=>σ) (fun i=>i<=f.groups.length/\(List.range i).all (TS f)=true) (fun i=>f.groups.length-i) 0 xy ⟨by omega,by simp⟩ ⟨.refl _,trivial⟩ (.refl _) ?_
     rintro m ⟨m1,m2⟩
     try simp only[go_sem,seval,cL]
     refine⟨fun h1=>⟨by omega,h1,fun c hc=>?_⟩,fun h1=>?_⟩
     ·rw[iF] at hc
      obtain⟨u,hu,rfl⟩:=dS hc
      have hml:m<f.groups.length:=(List.getElem?_eq_some_iff.1 hu).1
      have hgb:TS f m=false->NO f=220:=fun h=>bad (by
       have:(List.range f.groups.length).all (TS f)=false:=by
        rw[mR]
        exact⟨m,List.mem_range.2 hml,by rw[h];simp⟩
       unfold Pe;rw[this];simp)
      have hgd:TS f m=(!decide (u.alts.length=0)&&u.env.all Z1&&u.alts.all (Wx f m)&&Bb (u.alts.map Zr.path)):=by simp only[TS,hu]
      have hls:=((hgr.mem (e:=u.emb) (iG hc)).agg (c:=.list .none 7 (dc u.alts)) yg).len
      rw[dh] at hls
      have hclu:=hcl m u hu
      try simp only[go_sem,seval,FGroup.emb]
      intro b6 hb6
      by_cases a0:u.alts.length=0
      ·have q1:((u.alts.length:Int)=0)=True:=iS xh
       try simp only[go_sem,seval,q1,iT,dh]
       rw[hgb (by rw[hgd,jy a0];simp)]
       exact Zz (.refl _) ((Sub.refl _).skip _)
      ·have q1:((u.alts.length:Int)=0)=False:=iU xh
       try simp only[go_sem,seval,q1,iV,dh]
       refine(VS u.env .none 2 (.inl rfl)).use ?_
       obtain⟨be,fe⟩:∃ b,u.env.all Z1=b:=⟨_,rfl⟩
       rw[fe]
       cases be with
       | false =>
         refine wN ?_
         rw[hgb (by rw[hgd,fe];simp)]
         exact Zz (.refl _) ((Sub.refl _).skip _)
       | true =>
         refine wN ?_
         obtain⟨T,hT⟩:∃ T:Store,T=(b6,.cells [.list .none 2 (cI u.env),.list .none 7 (dc u.alts)])::σ:=⟨_,rfl⟩
         rw[<- hT]
         have hSs:∀ {S:Store},Has T S->Sub σ S:=fun h=>Has.sub (fun p hp=>h p (by rw[hT];exact kR _ hp)) hnd
         refine Zp (mu:=[]) (dr:=[]) [2,7,9,71,72,73,74,75,76,77,78,79,80,81,82,83,84,85] (fun x:Nat×AV×Store=>[(71,vi x.1),(7,x.2.1)]) (fun x=>x.2.2) (fun x=>x.1<=u.alts.length/\LV T x.2.2 x.2.1 1 (Xd ((u.alts.take x.1).map Zr.path))/\Has T x.2.2/\(u.alts.take x.1).all (Wx f m)=true) (fun x=>u.alts.length-x.1) (0,.list .full 0 [],T) xy ⟨by omega,LV.nil _ _ _,.refl _,by simp⟩ ⟨.refl _,.refl _,trivial⟩ (.refl _) ?_
         rintro⟨j,v,S⟩ ⟨j1,j2,j3,j4⟩
         simp only at j1 j2 j3 j4
         refine wN ?_
         refine⟨fun h1=>⟨by omega,h1,fun c hc=>?_⟩,fun h1=>?_⟩
         ·rw[iF] at hc
          obtain⟨C,hC,rfl⟩:=eA hc
          have hcC:=hclu C
          have hst:(u.alts.take (j+1)).all (Wx f m)=Wx f m C:=by rw[jh,hC,jj,mQ,j4];simp
          have hcb:Wx f m C=false->TS f m=false:=fun h=>by
           have:u.alts.all (Wx f m)=false:=by
            rw[mR]
            exact⟨C,iG hC,by rw[h];simp⟩
           rw[hgd,this];simp
          simp only[Zr.emb] at hcC
          try simp only[go_sem,seval,Zr.emb]
          intro b9 hb9
          refine uw ?_
          refine hcC.use ?_
          obtain⟨bc,fc⟩:∃ b,Wx f m C=b:=⟨_,rfl⟩
          rw[fc]
          cases bc with
          | false =>
            refine wN ?_
            rw[hgb (hcb fc)]
            exact Zz (.refl _) ((hSs j3).skip _)
          | true =>
            try simp only[go_sem,seval,dh,j2.one,j2.cells]
            refine⟨rfl,(j2.cons hb9 _).append rfl xj (by simp[Xd];omega) rfl xf (j3.cons _) (fun v' S' hv' hkp hS'=>?_)⟩
            refine vh ?_
            rw[hw j xh]
            refine .mk (j+1,v',S') ⟨by simp only;omega,?_,hS',by simp only;rw[hst,fc]⟩ xS ⟨.refl _,.refl _,trivial⟩ yS (.refl _)
            simp only
            rw[jh,hC,jj,jv]
            have:Xd ((u.alts.take j).map Zr.path++[C].map Zr.path)=Xd ((u.alts.take j).map Zr.path)++[[AV.list .none 1 (Zu C.path)]]:=by simp[Xd]
            rw[this]
            exact hv'
         ·have hjr:u.alts.take j=u.alts:=iW xh
          rw[hjr] at j2 j4
          try simp only[go_sem,seval,j2.one,j2.cells]
          refine((AR (u.alts.map Zr.path) (fun e=>by have:=je List.length e;rw[io,im] at this;omega)).use ?_).wk ⟨j2.wk,trivial⟩
          obtain⟨bc,fc⟩:∃ b,Bb (u.alts.map Zr.path)=b:=⟨_,rfl⟩
          rw[fc]
          cases bc with
          | false =>
            refine uw ?_
            rw[hgb (by rw[hgd,fc];simp)]
            exact Zz (.refl _) (hSs j3)
          | true =>
            refine uw ?_
            rw[hw m xh]
            refine .mk (m+1) ⟨by omega,?_⟩ xh ⟨.refl _,trivial⟩ yV (hSs j3)
            rw[Pl,m2,hgd,fe,j4,fc,jY a0];rfl
     ·have hme:m=f.groups.length:=by omega
      rw[hme] at m2
      have:NO f=0:=by
       unfold NO Pe
       rw[jy hg0,jy hnn,i2,m2];rfl
      rw[this]
      exact oG
   ·have e1:Ra f=8001:=by unfold Ra;rw[ig hnn]
    rw[e1]
    refine uw ?_
    rw[bad (by unfold Pe;rw[jY hnn];simp)]
    exact Zl
def hcl(pred:Str)(i:Nat):Nat->List Zr->List Pick
 | _,[]=>[]
 | k,c::r=>(if c.name=pred then[⟨i,k⟩] else[])++hcl pred i (k+1) r
def Vr(f:Flat)(pred:Str)(i:Nat)(n:Int):List Pick :=
 if 0<=n then(match f.groups[n.toNat]? with|some u=>hcl pred i 0 u.alts|none=>[]) else[]
def hrl(f:Flat)(pred:Str):Nat->List Int->List Pick
 | _,[]=>[]
 | i,n::r=>Vr f pred i n++hrl f pred (i+1) r
def Nz(f:Flat)(pred:Str):List Pick:=hrl f pred 0 f.rules
theorem It(pred:Str)(i:Nat)(l m:List Zr)(k:Nat):hcl pred i k (l++m)=hcl pred i k l++hcl pred i (k+l.length) m:=by
 induction l generalizing k with
 | nil=>rfl
 | cons c r ih =>
   simp only[kE,hcl,ih,ju,ij]
   rw[show k+1+r.length=k+(r.length+1) by omega]
theorem Is(f:Flat)(pred:Str)(l m:List Int)(k:Nat):hrl f pred k (l++m)=hrl f pred k l++hrl f pred (k+l.length) m:=by
 induction l generalizing k with
 | nil=>rfl
 | cons c r ih =>
   simp only[kE,hrl,ih,ju,ij]
   rw[show k+1+r.length=k+(r.length+1) by omega]
theorem Er{f:Flat}{pred:Str}{l:List Int}{i:Nat}{n:Int}(h:l[i]?=some n):hrl f pred 0 (l.take (i+1))=hrl f pred 0 (l.take i)++Vr f pred i n:=by
 rw[jh,h,jj,Is,ip,jG]
 have:min i l.length=i:=by have:=(List.getElem?_eq_some_iff.1 h).1;omega
 rw[this];simp[hrl]
theorem Es{pred:Str}{l:List Zr}{i k:Nat}{c:Zr}(h:l[k]?=some c):hcl pred i 0 (l.take (k+1))=hcl pred i 0 (l.take k)++(if c.name=pred then[⟨i,k⟩] else[]):=by
 rw[jh,h,jj,It,ip,jG]
 have:min k l.length=k:=by have:=(List.getElem?_eq_some_iff.1 h).1;omega
 rw[this];simp[hcl]
theorem AN(f:Flat)(pred:Str)(l:List Int)(i:Nat):(hrl f pred 0 (l.take i)).length<=(hrl f pred 0 l).length:=by
 have:=Is f pred (l.take i) (l.drop i) 0
 rw[jl] at this
 rw[this,ii];omega
theorem AP(pred:Str)(j:Nat)(l:List Zr)(i:Nat):(hcl pred j 0 (l.take i)).length<=(hcl pred j 0 l).length:=by
 have:=It pred j (l.take i) (l.drop i) 0
 rw[jl] at this
 rw[this,ii];omega
theorem C0(f:Flat)(pred:Str)(hh:(Nz f pred).length<=137438953472):Pur nC 17 [.agg f.emb,vs pred] (.list .none 2 (dR (Nz f pred))):=by
 intro σ
 refine Zh.nodup xy (fun hnd=>?_)
 refine Zh.ok xy (fun hok=>?_)
 have hf:=hok _ ir
 clear hok
 have hgr:=hf.agg (c:=.list .none 2 (cX f.groups)) xV
 have hlr:=(hf.agg (c:=.list .none 1 (Zu f.rules)) xV).len
 rw[Z9] at hlr
 refine uI fun hw=>?_
 unfold Nz at hh ⊢
 simp only[Flat.emb]
 refine Zb [] [] Tryz.func17 rfl xy ?_;rw[Tryz.ntmps17,Tryz.results17]
 refine wv ?_
 refine Zp (mu:=[]) (dr:=[]) [5,6,7,8,9,13,14,15,16,17,18,19,20,21,22,23,24,25,26,27,28,29,30,31,32,33,34,35,36,37,38,39,40,41,42,43,44,45,46,47,48,49,50] (fun x:Nat×AV×Store=>[(13,vi x.1),(5,x.2.1)]) (fun x=>x.2.2) (fun x=>x.1<=f.rules.length/\LV σ x.2.2 x.2.1 2 (dR (hrl f pred 0 (f.rules.take x.1)))/\Has σ x.2.2) (fun x=>f.rules.length-x.1) (0,.list .full 0 [],σ) xy ⟨by omega,LV.nil _ _ _,.refl _⟩ ⟨.refl _,.refl _,trivial⟩ (.refl _) ?_
 rintro⟨i,v,S⟩ ⟨i1,i2,i3⟩
 simp only at i1 i2 i3
 refine wv ?_
 refine⟨fun h1=>⟨by omega,h1,fun c hc=>?_⟩,fun h1=>?_⟩
 ·rw[iF] at hc
  obtain⟨n,hn,rfl⟩:=Yi hc
  have hst:=Er (f:=f) (pred:=pred) hn
  have hle:=AN f pred f.rules (i+1)
  by_cases n1:n<0
  ·have q1:(n<0)=True:=iS n1
   try simp only[go_sem,seval,q1,iT]
   have:Vr f pred i n=[]:=by unfold Vr;rw[ig xh]
   exact pW
  ·have q1:(n<0)=False:=iU n1
   by_cases n2:(f.groups.length:Int)<=n
   ·have q2:((f.groups.length:Int)<=n)=True:=iS n2
    try simp only[go_sem,seval,q1,q2,iT,iV,cL]
    have:Vr f pred i n=[]:=by
     have:f.groups[n.toNat]?=none:=jE xh
     unfold Vr;rw[gZ xh,this]
    exact pW
   ·have q2:((f.groups.length:Int)<=n)=False:=iU n2
    try simp only[go_sem,seval,q1,q2,iT,iV,cL]
    refine⟨by omega,by omega,fun c hc=>?_⟩
    obtain⟨u,hu,rfl⟩:=dS hc
    have hat:Vr f pred i n=hcl pred i 0 u.alts:=by unfold Vr;rw[gZ xh,hu]
    rw[hat] at hst
    have hls:=((hgr.mem (e:=u.emb) (iG hc)).agg (c:=.list .none 7 (dc u.alts)) yg).len
    rw[dh] at hls
    try simp only[go_sem,seval,FGroup.emb,dh]
    refine Zp (mu:=[]) (dr:=[]) [5,8,9,34,35,36,37,38,39,40,41,42,43,44,45,46,47,48,49] (fun x:Nat×AV×Store=>[(34,vi x.1),(5,x.2.1)]) (fun x=>x.2.2) (fun x=>x.1<=u.alts.length/\LV σ x.2.2 x.2.1 2 (dR (hrl f pred 0 (f.rules.take i)++hcl pred i 0 (u.alts.take x.1)))/\Has σ x.2.2) (fun x=>u.alts.length-x.1) (0,v,S) xy ⟨by omega,by simp only[iu,hcl,kh];exact i2,i3⟩ ⟨.refl _,.refl _,trivial⟩ (.refl _) ?_
    rintro⟨k,v,S⟩ ⟨j1,j2,j3⟩
    simp only at j1 j2 j3
    refine wN ?_
    refine⟨fun h1=>⟨by omega,h1,fun c hc=>?_⟩,fun h1=>?_⟩
    ·rw[iF] at hc
     obtain⟨C,hC,rfl⟩:=eA hc
     have hct:=Es (pred:=pred) (i:=i) hC
     have hcle:=AP pred i u.alts (k+1)
     try simp only[go_sem,seval,Zr.emb]
     intro b9 hb9
     by_cases nm:C.name=pred
     ·have q3:(C.name=pred)=True:=iS nm
      try simp only[go_sem,seval,q3,iT,j2.one,j2.cells]
      rw[gZ nm] at hct
      have l1:=je List.length hst
      have l2:=je List.length hct
      rw[ii] at l1 l2
      rw[iq] at l2
      refine⟨rfl,(j2.cons hb9 _).append rfl xj (by rw[fK,ii,iq];omega) rfl xf (j3.cons _) (fun v' S' hv' hkp hS'=>?_)⟩
      refine vh ?_
      rw[hw k xh]
      refine .mk (k+1,v',S') ⟨by simp only;omega,?_,hS'⟩ xS ⟨.refl _,.refl _,trivial⟩ yS (.refl _)
      simp only
      rw[hct,<- ju]
      have:dR (hrl f pred 0 (f.rules.take i)++hcl pred i 0 (u.alts.take k)++[⟨i,k⟩])=dR (hrl f pred 0 (f.rules.take i)++hcl pred i 0 (u.alts.take k))++[[vi i,vi k]]:=by simp[dR,Pick.emb]
      rw[this]
      exact hv'
     ·have q3:(C.name=pred)=False:=iU nm
      try simp only[go_sem,seval,q3,iV]
      rw[ig nm,kh] at hct
      rw[hw k xh]
      refine .mk (k+1,v,(b9,_)::S) ⟨by simp only;omega,by simp only;rw[hct];exact j2.cons hb9 _,j3.cons _⟩ xS ⟨.refl _,.refl _,trivial⟩ yS (.refl _)
    ·have hjr:u.alts.take k=u.alts:=iW xh
     rw[hjr,<- hst] at j2
     try simp only[go_sem,seval,j2.one,j2.cells]
     rw[hw i xh]
     exact .mk (i+1,v,S) ⟨by simp only;omega,j2,j3⟩ xS ⟨.refl _,.refl _,trivial⟩ yV (.refl _)
 ·have hir:f.rules.take i=f.rules:=iW xh
  rw[hir] at i2
  try simp only[go_sem,seval,i2.one,i2.cells]
  exact .mk i2.wk (i3.sub hnd) ⟨rfl,rfl⟩
end Go.Vx
