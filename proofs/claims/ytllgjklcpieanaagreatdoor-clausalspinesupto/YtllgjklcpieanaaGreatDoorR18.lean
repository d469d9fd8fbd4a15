/- A part of the proof of clausalSpinesProved. -/
import Derived.Test.YtllgjklcpieanaaGreatDoorR15
import Derived.Test.YtllgjklcpieanaaGreatDoorR14
set_option linter.unusedVariables false
set_option linter.unusedSimpArgs false
set_option maxRecDepth 100000
namespace Go.Vx
open Go.Proofs
abbrev Wv:Str:={ data:=#[97,98,99,100,101,102,103,104,105,106,107,108,109,110,111,112,113,114,115,116,117,118,119,120,121,122,65,66,67,68,69,70,71,72,73,74,75,76,77,78,79,80,81,82,83,84,85,86,87,88,89,90,48,49,50,51,52,53,54,55,56,57,95,39] }
def letCs:List AV:=Yq Wv Wv.size
def QG(x:Int):Bool:=decide (∃ i,i<Wv.size/\i<Wv.size/\bAt Wv i=x)
theorem MS(x:Int)(h0:0<=x)(h1:x<256):(List.drop (x.toNat * 1) letCs).head?=some (vb (QG x)):=by
 rw[lN,jC]
 unfold letCs Yq QG
 rw[jp,lB xh]
 simp only[jX,jq]
 refine je (fun p=>vb p) (decide_eq_decide.2 ?_)
 rw[show((x.toNat:Nat):Int)=x by omega]
theorem Hw:letCs.length=256:=XZ _ _
theorem Hv:letCs.all AV.one=true:=by simp[letCs,Yq,AV.one,Value.oneCell']
def Vw(s:Str):Nat->Nat->Nat
 | 0,n=>n
 | f+1,n=>if n<s.size/\QG (bAt s n)=true then Vw s f (n+1) else n
theorem V4(s:Str):∀ f n,n<=s.size->n<=Vw s f n/\Vw s f n<=s.size:=by
 intro f
 induction f with
 | zero=>intro n h;exact⟨kO _,h⟩
 | succ f ih =>
   intro n h
   rw[Vw]
   split
   ·have:=ih (n+1) xh;omega
   ·omega
theorem Fk(s:Str)(n bt bw:Nat)(hn:n<=s.size)(hsz:s.size<=20000)(σ:Store)(gt:σ.get bt=some (.cells [vs s]))(gw:σ.get bw=some (.cells letCs)) :
 Zh nC 318 [vi n,.val (.pointer (some ⟨bt,0,none⟩)),.val (.pointer (some ⟨bw,0,none⟩))] σ (ZP (vi (Vw s (s.size+1) n)) σ):=by
 refine Zb [] [] Tryz.func318 rfl xy ?_;rw[Tryz.ntmps318,Tryz.results318]
 refine uw ?_
 refine Zp (mu:=[]) (dr:=[]) [0,5,6,7,8,9,10,11,12,13,14,15,16,17] (fun x:Nat=>[(0,vi x)]) (fun _=>σ) (fun x=>x<=s.size/\∃ f,s.size-x<f/\Vw s f x=Vw s (s.size+1) n) (fun x=>s.size-x) n xy ⟨hn,_,by omega,rfl⟩ ⟨.refl _,trivial⟩ (.refl _) ?_
 rintro x ⟨hxs,f,hf,hx⟩
 obtain⟨f,rfl⟩:∃ g,f=g+1:=⟨f-1,by omega⟩
 rw[Vw] at hx
 by_cases hlt:x<s.size
 ·try simp only[go_sem,seval,gt,gw,iF,MS _ (Rr s x).1 (Rr s x).2,hlt]
  have hb:=Rr s x
  cases hl:QG (bAt s x) with
  | true =>
    rw[gZ ⟨hlt,hl⟩] at hx
    try simp only[go_sem,seval,hl]
    refine⟨fun _=>⟨by omega,by omega,hb.1,hb.2,?_⟩,fun h=>by omega⟩
    rw[show IntKind.i64.wrap ((x:Int)+1)=((x+1:Nat):Int) from Zk xh xh]
    exact .mk (x+1) ⟨by omega,f,by omega,hx⟩ xh ⟨.refl _,trivial⟩ yS (.refl _)
  | false =>
    rw[ig (fun h=>by rw[hl] at h;simp at h)] at hx
    try simp only[go_sem,seval,hl]
    refine⟨fun _=>⟨by omega,by omega,hb.1,hb.2,?_⟩,fun h=>by omega⟩
    rw[<- hx]
    exact Zl
 ·rw[ig (fun h=>hlt h.1)] at hx
  try simp only[go_sem,seval,gt,gw,hlt]
  refine⟨fun h=>by omega,fun _=>?_⟩
  rw[<- hx]
  exact Zl
theorem XA(s:Str)(k:Int)(n a bt ba:Nat)(hn:n<=s.size)(σ:Store)(gt:σ.get bt=some (.cells [vs s]))(ga:σ.get ba=some (.cells [vi a])) :
 Zh nC 319 [vi k,vi n,.val (.pointer (some ⟨bt,0,none⟩)),.val (.pointer (some ⟨ba,0,none⟩))] σ (ZP (.tup [.agg [vi k,vs (s.extract 0 n),vi a],vb true]) σ):=by
 refine Zb [] [(1,5,0)] Tryz.func319 rfl xy ?_;rw[Tryz.ntmps319,Tryz.results319]
 refine uw ?_
 intro b hb
 try simp only[go_sem,seval,hb,gt,ga,iF]
 refine⟨by omega,by omega,?_⟩
 try simp only[go_sem,seval,hb,gt,ga,iF]
 exact oW
def X0:List Str:=[{ data:=#[116,121,112,101] },{ data:=#[99,111,110,115,116] },{ data:=#[112,114,101,100] },{ data:=#[102,97,99,116] },{ data:=#[108,97,115,116,105,110,103] },{ data:=#[109,111,100,101] },{ data:=#[114,117,108,101] },{ data:=#[111,110,99,101] },{ data:=#[109,111,115,116] },{ data:=#[113,117,101,114,121] },{ data:=#[109,111,100,117,108,101] },{ data:=#[117,115,101] },{ data:=#[101,120,112,111,114,116] },{ data:=#[97,108,108] },{ data:=#[101,120] },{ data:=#[111,110,101] },{ data:=#[116,111,112] }]
theorem YA:Pur nC 321 [] (.list .full 1 (ZX X0)):=by
 intro σ
 refine Zb [] [] Tryz.func321 rfl xy ?_;rw[Tryz.ntmps321,Tryz.results321]
 refine uw ?_
 exact⟨by decide,Zl⟩
abbrev wO:Str:={ data:=#[111] }
abbrev Ac:Str:={ data:=#[42,38,43,33,123,125,40,41,46,44,58,92] }
abbrev Np (b:Int):Prop:=97<=b/\b<=122
abbrev QQ (b:Int):Prop:=65<=b/\b<=90
def TL(r:Str):Nat:=if Vw r (r.size+1) 0+1<r.size/\bAt r (Vw r (r.size+1) 0)=64/\Np (bAt r (Vw r (r.size+1) 0+1)) then Vw r (r.size+1) (Vw r (r.size+1) 0+1) else Vw r (r.size+1) 0
def Yk(r:Str):nM (Int×Nat) :=
 if Np (bAt r 0) then
  (if r.extract 0 (TL r)=wO/\1<r.size/\bAt r 1=45 then some (3,2) else if r.extract 0 (TL r)∈X0 then some (4,TL r) else some (1,TL r))
 else if QQ (bAt r 0) then some (2,Vw r (r.size+1) 0)
 else if XB r { data:=#[45,62] }\/XB r { data:=#[61,62] }\/XB r { data:=#[60,61] } then some (3,2)
 else if XB r { data:=#[45,111] } then(if r.size=2\/QG (bAt r 2)=false then some (3,2) else none)
 else if 0<=Lib.indexByte Ac.data.toList (bAt r 0).toNat.toUInt8 then some (3,1) else none
def Y4(r:Str)(a:Nat):AV:=match Yk r with
 | some (k,n)=>.tup [.agg [vi k,vs (r.extract 0 n),vi a],vb true]
 | none=>.tup [.agg [vi 0,vs { data:=#[] },vi 0],vb false]
theorem D7(s:Str)(a:Nat)(ha:a<s.size)(hsz:s.size<=20000):Pur nC 310 [vs s,vi a] (Y4 (s.extract a s.size) a):=by
 intro σ
 obtain⟨r,hr⟩:∃ r:Str,r=s.extract a s.size:=⟨_,rfl⟩
 have hrs:r.size=s.size-a:=by rw[hr];simp[mL]
 rw[<- hr]
 refine Zb [3] [(12,4,0)] Tryz.func310 rfl xy ?_;rw[Tryz.ntmps310,Tryz.results310]
 refine uw ?_
 intro b3 hb3 b4 hb4
 try simp only[go_sem,seval,iF,hb3,hb4,<- hr]
 refine⟨by omega,by omega,by omega,fun b6 hb6=>?_⟩
 try simp only[go_sem,seval,iF,hb3,hb4,hb6]
 refine(Gh Wv xj).use ?_
 have hcl:Yq Wv Wv.size=letCs:=rfl
 rw[hcl]
 try simp only[go_sem,seval,iF,hb3,hb4,hb6,Hw,Hv]
 intro b7 hb7
 obtain⟨S,hS⟩:∃ S:Store,S=(b7,AObj.cells letCs)::(b6,.cells [vs r])::(b4,.cells [vi 0,vs { data:=#[] },vi 0])::(b3,.cells [vi a])::σ:=⟨_,rfl⟩
 have G4':Store.get ((b6,AObj.cells [vs r])::(b4,.cells [vi 0,vs { data:=#[] },vi 0])::(b3,.cells [vi a])::σ) b4=some (.cells [vi 0,vs { data:=#[] },vi 0]):=by rw[Zg hb6 xB,Ze]
 have G3'':Store.get ((b4,AObj.cells [vi 0,vs { data:=#[] },vi 0])::(b3,.cells [vi a])::σ) b3=some (.cells [vi a]):=by rw[Zg hb4 xB,Ze]
 have G3':Store.get ((b6,AObj.cells [vs r])::(b4,.cells [vi 0,vs { data:=#[] },vi 0])::(b3,.cells [vi a])::σ) b3=some (.cells [vi a]):=by rw[Zg hb6 (by rw[G3''];rfl),G3'']
 have G7:S.get b7=some (.cells letCs):=by rw[hS,Ze]
 have G6:S.get b6=some (.cells [vs r]):=by rw[hS,Zg hb7 xB,Ze]
 have G4:S.get b4=some (.cells [vi 0,vs { data:=#[] },vi 0]):=by rw[hS,Zg hb7 (by rw[G4'];rfl),G4']
 have G3:S.get b3=some (.cells [vi a]):=by rw[hS,Zg hb7 (by rw[G3'];rfl),G3']
 have hsub0:Sub σ S:=by rw[hS];exact(((Sub.refl σ).skip _).skip _).skip _ |>.skip _
 have hf4:Zm σ b4:=hb4.2
 have hsub:∀ x,Sub σ (S.set b4 x):=fun x=>hsub0.set_of hf4
 rw[<- hS]
 clear hS hb7 hb6 hb4 hb3 G4' G3'' G3' hcl
 try simp only[go_sem,seval,jf,G6]
 have hr0:0<r.size:=by omega
 refine⟨by omega,?_⟩
 refine(JV _).use ?_
 by_cases hs:Np (bAt r 0)
 ·try simp only[go_sem,seval,hs]
  refine(Fk r 0 b6 b7 xh xh S G6 G7).mono ?_
  rintro r' σ' ⟨h1,h2⟩
  rw[h1,h2]
  clear h1 h2 r' σ'
  obtain⟨n1,hn1⟩:∃ n1,n1=Vw r (r.size+1) 0:=⟨_,rfl⟩
  have hb1:=V4 r (r.size+1) 0 xh
  rw[<- hn1] at hb1 ⊢
  have hw1:IntKind.i64.wrap ((n1:Int)+1)=((n1+1:Nat):Int):=Zk xh xh
  by_cases hA:n1+1<r.size
  ·have hA':((n1+1:Nat):Int)<r.size:=by omega
   have e1:(((n1+1:Nat):Int)<r.size)=True:=iS hA'
   by_cases hB:bAt r n1=64
   ·try simp only[go_sem,seval,iF,G6,hw1,e1,iT]
    refine⟨by omega,by omega,?_⟩
    try simp only[go_sem,seval,iF,G6,hw1,hB,iT]
    repeat refine And.intro xh ?_
    refine(JV _).use ?_
    by_cases hC:Np (bAt r (n1+1))
    ·try simp only[go_sem,seval,iF,G6,hw1,hC]
     refine(Fk r (n1+1) b6 b7 xh xh S G6 G7).mono ?_
     rintro r' σ' ⟨h1,h2⟩
     rw[h1,h2]
     clear h1 h2 r' σ'
     obtain⟨n2,hn2⟩:∃ n2,n2=Vw r (r.size+1) (n1+1):=⟨_,rfl⟩
     have hb2:=V4 r (r.size+1) (n1+1) xh
     rw[<- hn2] at hb2 ⊢
     have hN:TL r=n2:=by unfold TL;rw[<- hn1,gZ ⟨hA,hB,hC⟩,hn2]
     try simp only[go_sem,seval,iF,G6]
     exact nQ
    ·have hN:TL r=n1:=by unfold TL;rw[<- hn1,ig (fun h=>hC h.2.2)]
     try simp only[go_sem,seval,iF,G6,hw1,hC]
     exact un
   ·have hN:TL r=n1:=by unfold TL;rw[<- hn1,ig (fun h=>hB h.2.1)]
    try simp only[go_sem,seval,iF,G6,hw1,e1,iT]
    refine⟨by omega,by omega,?_⟩
    try simp only[go_sem,seval,iF,G6,hw1,hB,iV]
    exact un
  ·have hN:TL r=n1:=by unfold TL;rw[<- hn1,ig (fun h=>hA h.1)]
   have hA':¬ (((n1+1:Nat):Int)<r.size):=by omega
   try simp only[go_sem,seval,iF,G6,hw1,hA']
   exact un
 ·try simp only[go_sem,seval,hs]
  refine(Gn _).use ?_
  by_cases hc:QQ (bAt r 0)
  ·try simp only[go_sem,seval,hc]
   refine(Fk r 0 b6 b7 xh xh S G6 G7).mono ?_
   rintro r' σ' ⟨h1,h2⟩
   rw[h1,h2]
   clear h1 h2 r' σ'
   have htok:Yk r=some (2,Vw r (r.size+1) 0):=by unfold Yk;rw[ig hs,gZ hc]
   have hb1:=V4 r (r.size+1) 0 xh
   refine uw ?_
   refine(XA r 2 _ a b6 b3 hb1.2 S G6 G3).mono ?_
   exact nX
  ·try simp only[go_sem,seval,hc,G6]
   refine(Vt _ _).use ?_
   by_cases p1:XB r { data:=#[45,62] }
   ·have htok:Yk r=some (3,2):=by unfold Yk;rw[ig hs,ig hc,gZ (.inl p1)]
    try simp only[go_sem,seval,p1,G6,iT]
    refine(XA r 3 2 a b6 b3 p1.1 S G6 G3).mono ?_
    exact nX
   ·try simp only[go_sem,seval,p1,G6,iV]
    refine(Vt _ _).use ?_
    by_cases p2:XB r { data:=#[61,62] }
    ·have htok:Yk r=some (3,2):=by unfold Yk;rw[ig hs,ig hc,gZ (.inr (.inl p2))]
     try simp only[go_sem,seval,p2,G6,iT]
     refine(XA r 3 2 a b6 b3 p2.1 S G6 G3).mono ?_
     exact nX
    ·try simp only[go_sem,seval,p2,G6,iV]
     refine(Vt _ _).use ?_
     by_cases p3:XB r { data:=#[60,61] }
     ·have htok:Yk r=some (3,2):=by unfold Yk;rw[ig hs,ig hc,gZ (.inr (.inr p3))]
      try simp only[go_sem,seval,p3,G6,iT]
      refine(XA r 3 2 a b6 b3 p3.1 S G6 G3).mono ?_
      exact nX
     ·have hno:¬ (XB r { data:=#[45,62] }\/XB r { data:=#[61,62] }\/XB r { data:=#[60,61] }):=fun h=>h.elim p1 (fun h=>h.elim p2 p3)
      try simp only[go_sem,seval,p3,G6,iV]
      refine(Vt _ _).use ?_
      by_cases p4:XB r { data:=#[45,111] }
      ·have hz:2<=r.size:=p4.1
       by_cases h2:r.size=2
       ·have htok:Yk r=some (3,2):=by unfold Yk;rw[ig hs,ig hc,ig hno,gZ p4,gZ (.inl h2)]
        have e2:(((r.size:Nat):Int)=2)=True:=iS xh
        try simp only[go_sem,seval,p4,G6,iT,e2]
        refine(XA r 3 2 a b6 b3 hz S G6 G3).mono ?_
        exact nX
       ·have h2':¬ ((r.size:Int)=2):=by omega
        have hbb:=Rr r 2
        try simp only[go_sem,seval,p4,G6,iT,h2',iV]
        refine⟨by omega,?_⟩
        have e2:(2:Int).toNat=2:=rfl
        try simp only[go_sem,seval,G7,e2,MS _ hbb.1 hbb.2]
        refine⟨hbb.1,hbb.2,?_⟩
        cases hl:QG (bAt r 2) with
        | false =>
          have htok:Yk r=some (3,2):=by unfold Yk;rw[ig hs,ig hc,ig hno,gZ p4,gZ (.inr hl)]
          refine uw ?_
          refine(XA r 3 2 a b6 b3 hz S G6 G3).mono ?_
          exact nX
        | true =>
          have htok:Yk r=none:=by unfold Yk;rw[ig hs,ig hc,ig hno,gZ p4,ig (fun h=>h.elim h2 (fun h=>by rw[hl] at h;cases h))]
          exact ob
      ·try simp only[go_sem,seval,p4,G6,iV]
       refine(RK _ _).use ?_
       refine uw ?_
       refine⟨fun hi=>?_,fun hi=>?_⟩
       ·have htok:Yk r=some (3,1):=by unfold Yk;rw[ig hs,ig hc,ig hno,ig p4,gZ hi]
        refine uw ?_
        refine(XA r 3 1 a b6 b3 xh S G6 G3).mono ?_
        exact nX
       ·have htok:Yk r=none:=by unfold Yk;rw[ig hs,ig hc,ig hno,ig p4,ig hi]
        exact ob
end Go.Vx
