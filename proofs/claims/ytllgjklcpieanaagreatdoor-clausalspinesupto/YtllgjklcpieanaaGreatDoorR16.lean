/- A part of the proof of clausalSpinesProved. -/
import Derived.Test.YtllgjklcpieanaaGreatDoorR13
import Derived.Test.YtllgjklcpieanaaGreatDoorR12
import Derived.Test.YtllgjklcpieanaaGreatDoorR15
set_option linter.unusedVariables false
set_option linter.unusedSimpArgs false
set_option maxRecDepth 100000
section
namespace Go.Vx
open Go.Proofs
mutual
def wlk:Ro->Int->Int×Int->Bool×(Int×Int)
 | .mk l,lv,(c,d)=>if c+1<=4000 then(if lv<=100 then Xs l (lv+1) (c+1,max d lv) else(true,(c+1,max d lv))) else(false,(c+1,d))
def Xs:List Ro->Int->Int×Int->Bool×(Int×Int)
 | [],_,st=>(true,st)
 | t::r,lv,st=>match wlk t lv st with
   | (true,st')=>Xs r lv st'
   | (false,st')=>(false,st')
end
def S2(σ:Store)(a b:Nat)(st:Int×Int):Store:=(σ.set a (.cells [vi st.1])).set b (.cells [vi st.2])
theorem Fd{σ:Store}{a b:Nat}{x y:AObj}(h:a≠b):(σ.set a x).set b y=(σ.set b y).set a x:=by
 induction σ with
 | nil=>rfl
 | cons p r ih =>
   obtain⟨c,z⟩:=p
   simp only[Store.set]
   by_cases e1:c=a
   ·have e2:¬ c=b:=fun e=>h (e1 ▸ e)
    simp[e1,e2,Store.set,h]
   ·by_cases e2:c=b
    ·simp[e1,e2,Store.set,iC h]
    ·simp[e1,e2,Store.set,ih]
section
variable {σ:Store} {a b:Nat} {c d c' d':Int}
theorem RA(hb:σ.get b=some (.cells [vi d]))(h:a≠b):σ.set a (.cells [vi c])=S2 σ a b (c,d):=by
 unfold S2;exact(V1 (by rw[Za (iC h)];exact hb)).symm
theorem BV:(S2 σ a b (c,d)).set b (.cells [vi d'])=S2 σ a b (c,d'):=by
 unfold S2;rw[Zx]
theorem B3(h:a≠b){st st':Int×Int}:S2 (S2 σ a b st) a b st'=S2 σ a b st':=by
 unfold S2;rw[Fd (iC h),Zx,Zx]
theorem RW{x:AObj}(ha:σ.get a=some x)(h:a≠b)(st:Int×Int):(S2 σ a b st).get a=some (.cells [vi st.1]):=by
 unfold S2;rw[Za h,Zd ha]
theorem RV{x:AObj}(hb:σ.get b=some x)(h:a≠b)(st:Int×Int):(S2 σ a b st).get b=some (.cells [vi st.2]):=by
 unfold S2;exact Zd (x:=x) (by rw[Za (iC h)];exact hb)
theorem SH{k:Nat}(h1:k≠a)(h2:k≠b)(st:Int×Int):(S2 σ a b st).get k=σ.get k:=by
 unfold S2;rw[Za h2,Za h1]
end
mutual
theorem Ab:∀ (t:Ro) (lv:Int) (st:Int×Int),0<=st.1->st.1<=4000->0<=st.2->st.2<=101->lv<=101->(wlk t lv st).1=true->0<=(wlk t lv st).2.1/\(wlk t lv st).2.1<=4000/\0<=(wlk t lv st).2.2/\(wlk t lv st).2.2<=101
 | .mk l,lv,(c,d),h1,h2,h3,h4,h5,hk=>by
   simp only[wlk] at hk ⊢
   simp only at h1 h2 h3 h4
   by_cases e:c+1<=4000
   ·rw[gZ e] at hk ⊢
    by_cases e2:lv<=100
    ·rw[gZ e2] at hk ⊢
     exact R5 l (lv+1) (c+1,max d lv) xS e xS xS xh hk
    ·rw[ig e2]
     simp only
     omega
   ·rw[ig e] at hk;cases hk
theorem R5:∀ (l:List Ro) (lv:Int) (st:Int×Int),0<=st.1->st.1<=4000->0<=st.2->st.2<=101->lv<=101->(Xs l lv st).1=true->0<=(Xs l lv st).2.1/\(Xs l lv st).2.1<=4000/\0<=(Xs l lv st).2.2/\(Xs l lv st).2.2<=101
 | [],lv,st,h1,h2,h3,h4,h5,hk=>by simp only[Xs];exact⟨h1,h2,h3,h4⟩
 | t::r,lv,st,h1,h2,h3,h4,h5,hk=>by
   simp only[Xs] at hk ⊢
   have ht:=Ab t lv st h1 h2 h3 h4 h5
   generalize wlk t lv st=p at hk ht ⊢
   obtain⟨b,q⟩:=p
   cases b with
   | true=>exact R5 r lv q (ht rfl).1 (ht rfl).2.1 (ht rfl).2.2.1 (ht rfl).2.2.2 h5 hk
   | false=>cases hk
end
theorem P4(l:List Ro)(t:Ro)(lv:Int):∀ st st',Xs l lv st=(true,st')->Xs (l++[t]) lv st=wlk t lv st':=by
 induction l with
 | nil=>intro st st' h;simp only[Xs,lE,jt] at h;subst h;simp only[kF,Xs];generalize wlk t lv st=p;obtain⟨b,q⟩:=p;cases b<;>rfl
 | cons x r ih =>
   intro st st' h
   simp only[Xs,kE] at h ⊢
   generalize wlk x lv st=p at h ⊢
   obtain⟨b,q⟩:=p
   cases b with
   | true=>exact ih q st' h
   | false=>simp at h
theorem P3(l:List Ro)(t:Ro)(r:List Ro)(lv:Int):∀ st st' st'',Xs l lv st=(true,st')->wlk t lv st'=(false,st'')->Xs (l++t::r) lv st=(false,st''):=by
 induction l with
 | nil=>intro st st' st'' h k;simp only[Xs,lE,jt] at h;subst h;simp only[kF,Xs,k]
 | cons x r ih =>
   intro st st' st'' h k
   simp only[Xs,kE] at h ⊢
   generalize wlk x lv st=p at h ⊢
   obtain⟨b,q⟩:=p
   cases b with
   | true=>exact ih q st' st'' h k
   | false=>simp at h
theorem II{σ:Store}{a b k:Nat}{x:AObj}{st:Int×Int}(h1:k≠a)(h2:k≠b):S2 ((k,x)::σ) a b st=(k,x)::S2 σ a b st:=by
 unfold S2;simp only[Store.set];rw[ig h1];simp only[Store.set];rw[ig h2]
mutual
def Ue:Ro->Int->Int
 | .mk l,lv=>if lv<=100 then VO l (lv+1) lv else lv
def VO:List Ro->Int->Int->Int
 | [],_,o=>o
 | t::r,lv,o=>VO r lv (max o (Ue t lv))
end
theorem Pa(l:List Ro)(t:Ro)(lv:Int):∀ o,VO (l++[t]) lv o=max (VO l lv o) (Ue t lv):=by
 induction l with
 | nil=>intro o;rfl
 | cons x r ih=>intro o;simp only[kE,VO];exact ih _
def Sk(t:Ro):Int×Int:=if(wlk t 1 (0,0)).1 then(wlk t 1 (0,0)).2 else((wlk t 1 (0,0)).2.1,Ue t 1)
def X4(t:Ro):Int:=if 4000<(Sk t).1 then 2 else if 100<(Sk t).2 then 5 else 0
theorem LH(t:Tm):Pur nC 125 [.agg t.emb] (.list .none 4 (cJ t.kids)):=by
 intro σ
 obtain⟨k,n,s,l⟩:=t
 simp only[cO,Tm.kids]
 refine Zb [] [] Tryz.func125 rfl xy ?_;rw[Tryz.ntmps125,Tryz.results125]
 exact oG
def UF(bn bd ba bw:Nat):nG:=.func (.func 259) #[] #[.pointer (some ⟨bn,0,none⟩),.pointer (some ⟨bd,0,none⟩),.pointer (some ⟨ba,0,none⟩),.pointer (some ⟨bw,0,none⟩)]
theorem IP(bn bd ba bw:Nat)(h1:bn≠bd):∀ (t:Tm) (lv c d:Int) (σ:Store),1<=lv->lv<=101->0<=c->c<=4000->0<=d->d<=101 ->
 σ.get bn=some (.cells [vi c])->σ.get bd=some (.cells [vi d])->σ.get ba=some (.cells [.val (.func (.func 125) #[] #[])])->σ.get bw=some (.cells [.val (UF bn bd ba bw)]) ->
 Zh nC 259 [.agg t.emb,vi lv,.val (.pointer (some ⟨bn,0,none⟩)),.val (.pointer (some ⟨bd,0,none⟩)),.val (.pointer (some ⟨ba,0,none⟩)),.val (.pointer (some ⟨bw,0,none⟩))] σ
  (fun r σ'=>σ'=S2 σ bn bd (wlk t.shape lv (c,d)).2/\r=if(wlk t.shape lv (c,d)).1 then .ret (.tup []) else .pan (Yx 2)):=by
 intro t
 induction t using ed with|h k n s l ih=>?_
 intro lv c d σ hl1 hl2 hc0 hc1 hd0 hd1 gn gd ga gw
 refine Zh.ok xy (fun hok=>?_)
 refine vw fun hlen=>?_
 rw[cF] at hlen
 clear hok
 simp only[cO]
 have n1:ba≠bn:=by intro e;rw[e,gn] at ga;simp at ga
 have n2:ba≠bd:=by intro e;rw[e,gd] at ga;simp at ga
 have n3:bw≠bn:=by intro e;rw[e,gn] at gw;simp[UF] at gw
 have n4:bw≠bd:=by intro e;rw[e,gd] at gw;simp[UF] at gw
 have hwc:IntKind.i64.wrap (c+1)=c+1:=Zk xh xh
 refine wT fun hwl=>?_
 refine Zb [] [] Tryz.func259 rfl xy ?_;rw[Tryz.ntmps259,Tryz.results259]
 refine vA ?_
 refine VJ (fun hm=>?_) (fun hm=>?_)
 ·have hm:c+1<=4000:=by simpa(disch:=omega) only[Zk,kD] using hm
  refine vA ?_
  refine⟨fun hlv=>?_,fun hlv=>?_⟩
  ·refine(LH (.mk k n s l)).use ?_
   try simp only[go_sem,seval,gn,gd,ga,gw,h1,iC h1,n1,n2,n3,n4,hwc,hwl,Tm.kids]
   rw[RA (d:=d) gd h1,BV]
   have hsh:(wlk (Tm.mk k n s l).shape lv (c,d))=Xs (cK l) (lv+1) (c+1,max d lv):=by
    simp only[Tm.shape,wlk,gZ hm,gZ hlv]
   rw[hsh]
   refine Zp (mu:=[6]) (dr:=[]) [9,24,25,26,27,28,29,30,31,32,33] (fun x:Nat×(Int×Int)=>[(24,vi x.1)]) (fun x=>S2 σ bn bd x.2)
    (fun x=>x.1<=l.length/\Xs (cK (l.take x.1)) (lv+1) (c+1,max d lv)=(true,x.2)) (fun x=>l.length-x.1) (0,(c+1,max d lv)) xy ⟨by simp,by simp[cK,Xs]⟩ ?_ (.refl _) ?_
   ·exact⟨.refl _,trivial⟩
   ·rintro⟨i,st⟩ ⟨hi,hst⟩
    dsimp only at hi hst
    have hb:=R5 (cK (l.take i)) (lv+1) (c+1,max d lv) xX xX xX xX xh (by rw[hst])
    rw[hst] at hb
    dsimp only at hb
    obtain⟨c1,d1⟩:=st
    dsimp only at hb
    try simp only[go_sem,seval,cF,RW gn h1,RV gd h1,SH n1 n2,SH n3 n4,ga,gw,hwl]
    refine⟨fun hi2=>⟨by omega,hi2,fun e he=>?_⟩,fun hi2=>?_⟩
    ·rw[iF] at he
     obtain⟨a,ha,rfl⟩:=dQ he
     have iha:=ih a (iG ha)
     obtain⟨ka,na,sa,la⟩:=a
     try simp only[go_sem,seval,cO]
     intro b9 hb9
     have m1:=ZI hb9 (RW gn h1 (c1,d1))
     have m2:=ZI hb9 (RV gd h1 (c1,d1))
     have m4:=ZI hb9 ((SH n3 n4 (c1,d1)).trans gw)
     try simp only[go_sem,seval,cO,m1,m2,m4,RW gn h1,RV gd h1,SH n1 n2,SH n3 n4,ga,gw,hwl,UF]
     have hsplit:=Z6 ha
     refine vK ?_
     rintro r _ ⟨rfl,rfl⟩
     rw[B3 h1]
     have hsn:∀ x:Tm,cK (l.take i++[x])=cK (l.take i)++[x.shape]:=fun x=>by simp[cS]
     generalize hw:wlk (Tm.mk ka na sa la).shape (lv+1) (c1,d1)=p
     obtain⟨b,q⟩:=p
     cases b with
     | true =>
       exact tR
     | false =>
       refine uw ?_
       have he:Xs (cK l) (lv+1) (c+1,max d lv)=(false,q):=by
        rw[hsplit,cS,jv,iR,<- cS]
        exact P3 _ _ _ _ _ _ _ hst hw
       rw[he]
       exact .mk (.refl _) ⟨rfl,rfl⟩
    ·have hil:l.take i=l:=iW xh
     rw[hil] at hst
     rw[hst]
     exact qT
  ·rw[RA (d:=d) gd h1,BV]
   refine .mk (.refl _) (.refl _) ?_
   simp only[Tm.shape,wlk,gZ hm,ig hlv,iE,and_self]
 ·have hm:¬ c+1<=4000:=by simpa(disch:=omega) only[Zk,lT] using hm
  refine vA ?_
  rw[RA (d:=d) gd h1]
  refine .mk (.refl _) ?_
  simp only[Tm.shape,wlk,ig hm,me,lJ,and_self]
abbrev Uk:nG:=.func (.func 125) #[] #[]
theorem L7(bn bd ba bt:Nat)(h1:bn≠bd)(t:Tm)(σ:Store)(gn:σ.get bn=some (.cells [vi 0]))(gd:σ.get bd=some (.cells [vi 0]))(ga:σ.get ba=some (.cells [.val Uk]))(gt:σ.get bt=some (.cells t.emb)) :
 Zh nC 258 [.val (.pointer (some ⟨bn,0,none⟩)),.val (.pointer (some ⟨bd,0,none⟩)),.val (.pointer (some ⟨ba,0,none⟩)),.val (.pointer (some ⟨bt,0,none⟩))] σ
  (fun r σ'=>σ'=S2 σ bn bd (wlk t.shape 1 (0,0)).2/\r=if(wlk t.shape 1 (0,0)).1 then .ret (.tup []) else .pan (Yx 2)):=by
 obtain⟨k,n,s,l⟩:=t
 simp only[cO] at gt
 refine Zb [] [] Tryz.func258 rfl xy ?_;rw[Tryz.ntmps258,Tryz.results258]
 refine uw ?_
 intro bw hbw
 have m1:=ZI hbw gn
 have m2:=ZI hbw gd
 have m3:=ZI hbw ga
 have m4:=ZI hbw gt
 try simp only[go_sem,seval,m1,m2,m3,m4,gt]
 refine(IP bn bd ba bw h1 (.mk k n s l) 1 0 0 _ xh xh xh xh xh xh (by simp only[Store.get,ig m1];exact gn) (by simp only[Store.get,ig m2];exact gd) (by simp only[Store.get,ig m3];exact ga) (by simp only[Store.get,iE,UF])).mono ?_
 rintro r _ ⟨rfl,rfl⟩
 rw[II m1 m2]
 cases(wlk (Tm.mk k n s l).shape 1 (0,0)).1 with
 | true =>
   refine uw ?_
   exact pJ
 | false =>
   exact sj
def Pc(ba bw:Nat):nG:=.func (.func 292) #[] #[.pointer (some ⟨ba,0,none⟩),.pointer (some ⟨bw,0,none⟩)]
theorem K8(ba bw:Nat):∀ (t:Tm) (lv:Int) (σ:Store),1<=lv->lv<=101->σ.get ba=some (.cells [.val Uk])->σ.get bw=some (.cells [.val (Pc ba bw)]) ->
 Zh nC 292 [.agg t.emb,vi lv,.val (.pointer (some ⟨ba,0,none⟩)),.val (.pointer (some ⟨bw,0,none⟩))] σ (ZP (vi (Ue t.shape lv)) σ):=by
 intro t
 induction t using ed with|h k n s l ih=>?_
 intro lv σ hl1 hl2 ga gw
 refine Zh.ok xy (fun hok=>?_)
 refine vw fun hlen=>?_
 rw[cF] at hlen
 clear hok
 simp only[cO]
 refine wT fun hwl=>?_
 refine Zb [] [] Tryz.func292 rfl xy ?_;rw[Tryz.ntmps292,Tryz.results292]
 refine uw ?_
 refine⟨fun hlv=>?_,fun hlv=>?_⟩
 ·try simp only[go_sem,seval,ga,gw]
  refine(LH (.mk k n s l)).use ?_
  try simp only[go_sem,seval,Tm.kids]
  have hsh:Ue (Tm.mk k n s l).shape lv=VO (cK l) (lv+1) lv:=by simp only[Tm.shape,Ue,gZ hlv]
  rw[hsh]
  refine Zp (mu:=[]) (dr:=[]) [7,9,17,18,19,20,21,22,23,24,25,26,27,28] (fun i:Nat=>[(17,vi i),(7,vi (VO (cK (l.take i)) (lv+1) lv))]) (fun _=>σ)
   (fun i=>i<=l.length) (fun i=>l.length-i) 0 xy xh ⟨.refl _,.refl _,trivial⟩ (.refl _) ?_
  intro i hi
  try simp only[go_sem,seval,cF,ga,gw,hwl]
  refine⟨fun hi2=>⟨by omega,hi2,fun e he=>?_⟩,fun hi2=>?_⟩
  ·rw[iF] at he
   obtain⟨a,ha,rfl⟩:=dQ he
   have iha:=ih a (iG ha)
   obtain⟨kb,nb,sb,lb⟩:=a
   try simp only[go_sem,seval,cO]
   intro b9 hb9
   have m1:=ZI hb9 ga
   have m2:=ZI hb9 gw
   try simp only[go_sem,seval,cO,m1,m2,ga,gw,hwl,Pc]
   refine((iha (lv+1) σ xh xh ga gw).sub (.cons _ _)).mono ?_
   rintro r _ ⟨rfl,rfl⟩
   refine uw ?_
   refine vz fun hw64=>?_
   rw[hw64]
   have hsn:VO (cK (l.take (i+1))) (lv+1) lv=max (VO (cK (l.take i)) (lv+1) lv) (Ue (Tm.mk kb nb sb lb).shape (lv+1)):=by
    rw[jh,ha]
    simp only[jj,cS,jv,iR,kI]
    rw[Pa]
   exact uf
  ·have hil:l.take i=l:=iW xh
   rw[hil]
   exact Zl
 ·have hsh:Ue (Tm.mk k n s l).shape lv=lv:=by simp only[Tm.shape,Ue,ig hlv]
  rw[hsh]
  exact Zl
theorem NL(t:Tm):Pur nC 260 [.agg t.emb,.val Uk] (vi (Ue t.shape 1)):=by
 intro σ
 obtain⟨k,n,s,l⟩:=t
 simp only[cO]
 refine Zb [2,3] [] Tryz.func260 rfl xy ?_;rw[Tryz.ntmps260,Tryz.results260]
 refine uw ?_
 rintro b hb b1 ⟨m1,hb1⟩ b2 ⟨m2,m3,hb2⟩
 try simp only[go_sem,seval,m1,m2,m3,iC m1,iC m2,iC m3]
 refine(K8 b1 b2 (.mk k n s l) 1 _ xh xh (by simp only[Store.get,ig (iC m2),iE]) (by simp only[Store.get,iE,Pc])).mono ?_
 exact sA
theorem TE(t:Tm):Pur nC 188 [.agg t.emb,.val Uk] (.tup [vi (Sk t.shape).1,vi (Sk t.shape).2]):=by
 intro σ
 obtain⟨k,n,s,l⟩:=t
 simp only[cO]
 refine Zb [2,3] [(3,2,1)] Tryz.func188 rfl xy ?_;rw[Tryz.ntmps188,Tryz.results188]
 refine uw ?_
 rintro b2 hb2 b3 ⟨m23,hb3⟩ b4 ⟨m34,m24,hb4⟩ b5 ⟨m45,m35,m25,hb5⟩
 refine Tb _ _ _ (fun b ⟨q5,q4,q3,q2,hb⟩=>?_)
 rw[Z4]
 have h1:b4≠b5:=m45
 refine(L7 b4 b5 b3 b2 m45 (.mk k n s l) _ ?_ ?_ ?_ ?_).mono ?_
 ·simp[Store.get,iC q4,m45,iC m45]
 ·simp[Store.get,iC q5]
 ·simp[Store.get,iC q3,iC m35,iC m34]
 ·simp[Store.get,cO,iC q2,iC m25,iC m24,iC m23]
 rintro r _ ⟨rfl,rfl⟩
 have hst:∀ st:Int×Int,S2 ((b,AObj.cells [vi 0])::(b5,.cells [vi 0])::(b4,.cells [vi 0])::(b3,.cells [.val Uk])::(b2,.cells (Tm.mk k n s l).emb)::σ) b4 b5 st=(b,.cells [vi 0])::(b5,.cells [vi st.2])::(b4,.cells [vi st.1])::(b3,.cells [.val Uk])::(b2,.cells (Tm.mk k n s l).emb)::σ:=by
  intro st
  simp[S2,Store.set,iC q4,iC q5,iC m45]
 refine⟨_,hst _,?_⟩
 have hm:Sk (Tm.mk k n s l).shape=if(wlk (Tm.mk k n s l).shape 1 (0,0)).1 then(wlk (Tm.mk k n s l).shape 1 (0,0)).2 else((wlk (Tm.mk k n s l).shape 1 (0,0)).2.1,Ue (Tm.mk k n s l).shape 1):=rfl
 rw[hm]
 generalize wlk (Tm.mk k n s l).shape 1 (0,0)=p
 obtain⟨ok,c,d⟩:=p
 have e45:=iC m45
 have e34:=iC m34
 have e35:=iC m35
 have e24:=iC m24
 have e25:=iC m25
 have e23:=iC m23
 cases ok with
 | true =>
   exact uu
 | false =>
   refine⟨2,rfl,?_⟩
   try simp only[go_sem,seval,m23,m34,m24,m45,m35,m25,e23,e34,e24,e45,e35,e25,cO]
   refine(NL (.mk k n s l)).use ?_
   try simp only[go_sem,seval,m23,m34,m24,m45,m35,m25,e23,e34,e24,e45,e35,e25,cO]
   exact pX
theorem Ka(t:Tm):Pur nC 124 [.agg t.emb,.val Uk] (vi (X4 t.shape)):=by
 intro σ
 have hm:=TE t
 obtain⟨k,n,s,l⟩:=t
 simp only[cO] at hm ⊢
 refine Zb [] [] Tryz.func124 rfl xy ?_;rw[Tryz.ntmps124,Tryz.results124]
 refine uw ?_
 refine hm.use ?_
 unfold X4
 generalize Sk (Tm.mk k n s l).shape=p
 exact rb
theorem LG(t:Ty):Pur nC 165 [.agg t.emb] (.list .none 2 (cI t.kids)):=by
 intro σ
 obtain⟨s,l⟩:=t
 simp only[cQ,Ty.kids]
 refine Zb [] [] Tryz.func165 rfl xy ?_;rw[Tryz.ntmps165,Tryz.results165]
 exact oG
def UE(bn bd ba bw:Nat):nG:=.func (.func 264) #[] #[.pointer (some ⟨bn,0,none⟩),.pointer (some ⟨bd,0,none⟩),.pointer (some ⟨ba,0,none⟩),.pointer (some ⟨bw,0,none⟩)]
theorem IM(bn bd ba bw:Nat)(h1:bn≠bd):∀ (t:Ty) (lv c d:Int) (σ:Store),1<=lv->lv<=101->0<=c->c<=4000->0<=d->d<=101 ->
 σ.get bn=some (.cells [vi c])->σ.get bd=some (.cells [vi d])->σ.get ba=some (.cells [.val (.func (.func 165) #[] #[])])->σ.get bw=some (.cells [.val (UE bn bd ba bw)]) ->
 Zh nC 264 [.agg t.emb,vi lv,.val (.pointer (some ⟨bn,0,none⟩)),.val (.pointer (some ⟨bd,0,none⟩)),.val (.pointer (some ⟨ba,0,none⟩)),.val (.pointer (some ⟨bw,0,none⟩))] σ
  (fun r σ'=>σ'=S2 σ bn bd (wlk t.shape lv (c,d)).2/\r=if(wlk t.shape lv (c,d)).1 then .ret (.tup []) else .pan (Yx 2)):=by
 intro t
 induction t using eC with|h s l ih=>?_
 intro lv c d σ hl1 hl2 hc0 hc1 hd0 hd1 gn gd ga gw
 refine Zh.ok xy (fun hok=>?_)
 refine vL fun hlen=>?_
 rw[cG] at hlen
 clear hok
 simp only[cQ]
 have n1:ba≠bn:=by intro e;rw[e,gn] at ga;simp at ga
 have n2:ba≠bd:=by intro e;rw[e,gd] at ga;simp at ga
 have n3:bw≠bn:=by intro e;rw[e,gn] at gw;simp[UE] at gw
 have n4:bw≠bd:=by intro e;rw[e,gd] at gw;simp[UE] at gw
 have hwc:IntKind.i64.wrap (c+1)=c+1:=Zk xh xh
 refine wT fun hwl=>?_
 refine Zb [] [] Tryz.func264 rfl xy ?_;rw[Tryz.ntmps264,Tryz.results264]
 refine vA ?_
 refine VJ (fun hm=>?_) (fun hm=>?_)
 ·have hm:c+1<=4000:=by simpa(disch:=omega) only[Zk,kD] using hm
  refine vA ?_
  refine⟨fun hlv=>?_,fun hlv=>?_⟩
  ·refine(LG (.mk s l)).use ?_
   try simp only[go_sem,seval,gn,gd,ga,gw,h1,iC h1,n1,n2,n3,n4,hwc,hwl,Ty.kids]
   rw[RA (d:=d) gd h1,BV]
   have hsh:(wlk (Ty.mk s l).shape lv (c,d))=Xs (dg l) (lv+1) (c+1,max d lv):=by
    simp only[Ty.shape,wlk,gZ hm,gZ hlv]
   rw[hsh]
   refine Zp (mu:=[6]) (dr:=[]) [9,24,25,26,27,28,29,30,31,32,33] (fun x:Nat×(Int×Int)=>[(24,vi x.1)]) (fun x=>S2 σ bn bd x.2)
    (fun x=>x.1<=l.length/\Xs (dg (l.take x.1)) (lv+1) (c+1,max d lv)=(true,x.2)) (fun x=>l.length-x.1) (0,(c+1,max d lv)) xy ⟨by simp,by simp[dg,Xs]⟩ ?_ (.refl _) ?_
   ·exact⟨.refl _,trivial⟩
   ·rintro⟨i,st⟩ ⟨hi,hst⟩
    dsimp only at hi hst
    have hb:=R5 (dg (l.take i)) (lv+1) (c+1,max d lv) xX xX xX xX xh (by rw[hst])
    rw[hst] at hb
    dsimp only at hb
    obtain⟨c1,d1⟩:=st
    dsimp only at hb
    try simp only[go_sem,seval,cG,RW gn h1,RV gd h1,SH n1 n2,SH n3 n4,ga,gw,hwl]
    refine⟨fun hi2=>⟨by omega,hi2,fun e he=>?_⟩,fun hi2=>?_⟩
    ·rw[iF] at he
     obtain⟨a,ha,rfl⟩:=dJ he
     have iha:=ih a (iG ha)
     obtain⟨sa,la⟩:=a
     try simp only[go_sem,seval,cQ]
     intro b9 hb9
     have m1:=ZI hb9 (RW gn h1 (c1,d1))
     have m2:=ZI hb9 (RV gd h1 (c1,d1))
     have m4:=ZI hb9 ((SH n3 n4 (c1,d1)).trans gw)
     try simp only[go_sem,seval,cQ,m1,m2,m4,RW gn h1,RV gd h1,SH n1 n2,SH n3 n4,ga,gw,hwl,UE]
     have hsplit:=Z6 ha
     refine vK ?_
     rintro r _ ⟨rfl,rfl⟩
     rw[B3 h1]
     have hsn:∀ x:Ty,dg (l.take i++[x])=dg (l.take i)++[x.shape]:=fun x=>by simp[dY]
     generalize hw:wlk (Ty.mk sa la).shape (lv+1) (c1,d1)=p
     obtain⟨b,q⟩:=p
     cases b with
     | true =>
       exact tR
     | false =>
       refine uw ?_
       have he:Xs (dg l) (lv+1) (c+1,max d lv)=(false,q):=by
        rw[hsplit,dY,jv,iR,<- dY]
        exact P3 _ _ _ _ _ _ _ hst hw
       rw[he]
       exact .mk (.refl _) ⟨rfl,rfl⟩
    ·have hil:l.take i=l:=iW xh
     rw[hil] at hst
     rw[hst]
     exact qT
  ·rw[RA (d:=d) gd h1,BV]
   refine .mk (.refl _) (.refl _) ?_
   simp only[Ty.shape,wlk,gZ hm,ig hlv,iE,and_self]
 ·have hm:¬ c+1<=4000:=by simpa(disch:=omega) only[Zk,lT] using hm
  refine vA ?_
  rw[RA (d:=d) gd h1]
  refine .mk (.refl _) ?_
  simp only[Ty.shape,wlk,ig hm,me,lJ,and_self]
abbrev Uj:nG:=.func (.func 165) #[] #[]
theorem L6(bn bd ba bt:Nat)(h1:bn≠bd)(t:Ty)(σ:Store)(gn:σ.get bn=some (.cells [vi 0]))(gd:σ.get bd=some (.cells [vi 0]))(ga:σ.get ba=some (.cells [.val Uj]))(gt:σ.get bt=some (.cells t.emb)) :
 Zh nC 263 [.val (.pointer (some ⟨bn,0,none⟩)),.val (.pointer (some ⟨bd,0,none⟩)),.val (.pointer (some ⟨ba,0,none⟩)),.val (.pointer (some ⟨bt,0,none⟩))] σ
  (fun r σ'=>σ'=S2 σ bn bd (wlk t.shape 1 (0,0)).2/\r=if(wlk t.shape 1 (0,0)).1 then .ret (.tup []) else .pan (Yx 2)):=by
 obtain⟨s,l⟩:=t
 simp only[cQ] at gt
 refine Zb [] [] Tryz.func263 rfl xy ?_;rw[Tryz.ntmps263,Tryz.results263]
 refine uw ?_
 intro bw hbw
 have m1:=ZI hbw gn
 have m2:=ZI hbw gd
 have m3:=ZI hbw ga
 have m4:=ZI hbw gt
 try simp only[go_sem,seval,m1,m2,m3,m4,gt]
 refine(IM bn bd ba bw h1 (.mk s l) 1 0 0 _ xh xh xh xh xh xh (by simp only[Store.get,ig m1];exact gn) (by simp only[Store.get,ig m2];exact gd) (by simp only[Store.get,ig m3];exact ga) (by simp only[Store.get,iE,UE])).mono ?_
 rintro r _ ⟨rfl,rfl⟩
 rw[II m1 m2]
 cases(wlk (Ty.mk s l).shape 1 (0,0)).1 with
 | true =>
   refine uw ?_
   exact pJ
 | false =>
   exact sj
def Pb(ba bw:Nat):nG:=.func (.func 294) #[] #[.pointer (some ⟨ba,0,none⟩),.pointer (some ⟨bw,0,none⟩)]
theorem K7(ba bw:Nat):∀ (t:Ty) (lv:Int) (σ:Store),1<=lv->lv<=101->σ.get ba=some (.cells [.val Uj])->σ.get bw=some (.cells [.val (Pb ba bw)]) ->
 Zh nC 294 [.agg t.emb,vi lv,.val (.pointer (some ⟨ba,0,none⟩)),.val (.pointer (some ⟨bw,0,none⟩))] σ (ZP (vi (Ue t.shape lv)) σ):=by
 intro t
 induction t using eC with|h s l ih=>?_
 intro lv σ hl1 hl2 ga gw
 refine Zh.ok xy (fun hok=>?_)
 refine vL fun hlen=>?_
 rw[cG] at hlen
 clear hok
 simp only[cQ]
 refine wT fun hwl=>?_
 refine Zb [] [] Tryz.func294 rfl xy ?_;rw[Tryz.ntmps294,Tryz.results294]
 refine uw ?_
 refine⟨fun hlv=>?_,fun hlv=>?_⟩
 ·try simp only[go_sem,seval,ga,gw]
  refine(LG (.mk s l)).use ?_
  try simp only[go_sem,seval,Ty.kids]
  have hsh:Ue (Ty.mk s l).shape lv=VO (dg l) (lv+1) lv:=by simp only[Ty.shape,Ue,gZ hlv]
  rw[hsh]
  refine Zp (mu:=[]) (dr:=[]) [7,9,17,18,19,20,21,22,23,24,25,26,27,28] (fun i:Nat=>[(17,vi i),(7,vi (VO (dg (l.take i)) (lv+1) lv))]) (fun _=>σ)
   (fun i=>i<=l.length) (fun i=>l.length-i) 0 xy xh ⟨.refl _,.refl _,trivial⟩ (.refl _) ?_
  intro i hi
  try simp only[go_sem,seval,cG,ga,gw,hwl]
  refine⟨fun hi2=>⟨by omega,hi2,fun e he=>?_⟩,fun hi2=>?_⟩
  ·rw[iF] at he
   obtain⟨a,ha,rfl⟩:=dJ he
   have iha:=ih a (iG ha)
   obtain⟨sb,lb⟩:=a
   try simp only[go_sem,seval,cQ]
   intro b9 hb9
   have m1:=ZI hb9 ga
   have m2:=ZI hb9 gw
   try simp only[go_sem,seval,cQ,m1,m2,ga,gw,hwl,Pb]
   refine((iha (lv+1) σ xh xh ga gw).sub (.cons _ _)).mono ?_
   rintro r _ ⟨rfl,rfl⟩
   refine uw ?_
   refine vz fun hw64=>?_
   rw[hw64]
   have hsn:VO (dg (l.take (i+1))) (lv+1) lv=max (VO (dg (l.take i)) (lv+1) lv) (Ue (Ty.mk sb lb).shape (lv+1)):=by
    rw[jh,ha]
    simp only[jj,dY,jv,iR,kI]
    rw[Pa]
   exact uf
  ·have hil:l.take i=l:=iW xh
   rw[hil]
   exact Zl
 ·have hsh:Ue (Ty.mk s l).shape lv=lv:=by simp only[Ty.shape,Ue,ig hlv]
  rw[hsh]
  exact Zl
theorem NK(t:Ty):Pur nC 265 [.agg t.emb,.val Uj] (vi (Ue t.shape 1)):=by
 intro σ
 obtain⟨s,l⟩:=t
 simp only[cQ]
 refine Zb [2,3] [] Tryz.func265 rfl xy ?_;rw[Tryz.ntmps265,Tryz.results265]
 refine uw ?_
 rintro b hb b1 ⟨m1,hb1⟩ b2 ⟨m2,m3,hb2⟩
 try simp only[go_sem,seval,m1,m2,m3,iC m1,iC m2,iC m3]
 refine(K7 b1 b2 (.mk s l) 1 _ xh xh (by simp only[Store.get,ig (iC m2),iE]) (by simp only[Store.get,iE,Pb])).mono ?_
 exact sA
theorem PF(t:Ty):Pur nC 223 [.agg t.emb,.val Uj] (.tup [vi (Sk t.shape).1,vi (Sk t.shape).2]):=by
 intro σ
 obtain⟨s,l⟩:=t
 simp only[cQ]
 refine Zb [2,3] [(3,2,1)] Tryz.func223 rfl xy ?_;rw[Tryz.ntmps223,Tryz.results223]
 refine uw ?_
 rintro b2 hb2 b3 ⟨m23,hb3⟩ b4 ⟨m34,m24,hb4⟩ b5 ⟨m45,m35,m25,hb5⟩
 refine Tb _ _ _ (fun b ⟨q5,q4,q3,q2,hb⟩=>?_)
 rw[Z4]
 have h1:b4≠b5:=m45
 refine(L6 b4 b5 b3 b2 m45 (.mk s l) _ ?_ ?_ ?_ ?_).mono ?_
 ·simp[Store.get,iC q4,m45,iC m45]
 ·simp[Store.get,iC q5]
 ·simp[Store.get,iC q3,iC m35,iC m34]
 ·simp[Store.get,cQ,iC q2,iC m25,iC m24,iC m23]
 rintro r _ ⟨rfl,rfl⟩
 have hst:∀ st:Int×Int,S2 ((b,AObj.cells [vi 0])::(b5,.cells [vi 0])::(b4,.cells [vi 0])::(b3,.cells [.val Uj])::(b2,.cells (Ty.mk s l).emb)::σ) b4 b5 st=(b,.cells [vi 0])::(b5,.cells [vi st.2])::(b4,.cells [vi st.1])::(b3,.cells [.val Uj])::(b2,.cells (Ty.mk s l).emb)::σ:=by
  intro st
  simp[S2,Store.set,iC q4,iC q5,iC m45]
 refine⟨_,hst _,?_⟩
 have hm:Sk (Ty.mk s l).shape=if(wlk (Ty.mk s l).shape 1 (0,0)).1 then(wlk (Ty.mk s l).shape 1 (0,0)).2 else((wlk (Ty.mk s l).shape 1 (0,0)).2.1,Ue (Ty.mk s l).shape 1):=rfl
 rw[hm]
 generalize wlk (Ty.mk s l).shape 1 (0,0)=p
 obtain⟨ok,c,d⟩:=p
 have e45:=iC m45
 have e34:=iC m34
 have e35:=iC m35
 have e24:=iC m24
 have e25:=iC m25
 have e23:=iC m23
 cases ok with
 | true =>
   exact uu
 | false =>
   refine⟨2,rfl,?_⟩
   try simp only[go_sem,seval,m23,m34,m24,m45,m35,m25,e23,e34,e24,e45,e35,e25,cQ]
   refine(NK (.mk s l)).use ?_
   try simp only[go_sem,seval,m23,m34,m24,m45,m35,m25,e23,e34,e24,e45,e35,e25,cQ]
   exact pX
theorem L9(t:Ty):Pur nC 164 [.agg t.emb,.val Uj] (vi (X4 t.shape)):=by
 intro σ
 have hm:=PF t
 obtain⟨s,l⟩:=t
 simp only[cQ] at hm ⊢
 refine Zb [] [] Tryz.func164 rfl xy ?_;rw[Tryz.ntmps164,Tryz.results164]
 refine uw ?_
 refine hm.use ?_
 unfold X4
 generalize Sk (Ty.mk s l).shape=p
 exact rb
end Go.Vx
end
section
namespace Go.Vx
open Go.Proofs
abbrev WG:Str:={ data:=#[45,62] }
mutual
def wfT:Ty->Bool
 | .mk s l=>(decide (s=WG) == decide (l.length=2))&&(decide (s=WG) || decide (l.length=0))&&Uy l
def Uy:List Ty->Bool
 | []=>true
 | t::r=>wfT t&&Uy r
end
mutual
def okT(types:List Str):Ty->Bool
 | .mk s l=>(decide (s=WG) || decide (s∈types))&&Vz types l
def Vz(types:List Str):List Ty->Bool
 | []=>true
 | t::r=>okT types t&&Vz types r
end
theorem VE(l m:List Ty):Uy (l++m)=(Uy l&&Uy m):=by
 induction l with
 | nil=>rfl
 | cons a r ih=>simp only[kE,Uy,ih,Bool.and_assoc]
theorem Qt(ts:List Str)(l m:List Ty):Vz ts (l++m)=(Vz ts l&&Vz ts m):=by
 induction l with
 | nil=>rfl
 | cons a r ih=>simp only[kE,Vz,ih,Bool.and_assoc]
def ctV(bp be bw:Nat):nG:=.func (.func 167) #[] #[.pointer (some ⟨bp,0,none⟩),.pointer (some ⟨be,0,none⟩),.pointer (some ⟨bw,0,none⟩)]
theorem E2(bp be bw:Nat)(types:List Str)(rt:Rt)(sz:Nat)(hs:sz=1\/types=[])(rest:List AV):∀ (t:Ty) (e:Int) (σ:Store),σ.get bp=some (.cells (.list rt sz (ZX types)::rest))->σ.get be=some (.cells [vi e])->σ.get bw=some (.cells [.val (ctV bp be bw)]) ->
 Zh nC 167 [.agg t.emb,.val (.pointer (some ⟨bp,0,none⟩)),.val (.pointer (some ⟨be,0,none⟩)),.val (.pointer (some ⟨bw,0,none⟩))] σ
  (fun r σ'=>∃ e',σ'=σ.set be (.cells [vi e'])/\((wfT t=true/\r=.ret (.tup [])/\e'=if okT types t=true then e else 40)\/(wfT t=false/\r=.pan (Yx 6)))):=by
 intro t
 induction t using eC with|h s l ih=>?_
 intro e σ gp ge gw
 refine Zh.ok xy (fun hok=>?_)
 refine vL fun hlen=>?_
 rw[cG] at hlen
 clear hok
 simp only[cQ]
 have n1:bp≠be:=by intro h;rw[h,ge] at gp;simp at gp
 have n2:bw≠be:=by intro h;rw[h,ge] at gw;simp[ctV] at gw
 refine Zb [] [] Tryz.func167 rfl xy ?_;rw[Tryz.ntmps167,Tryz.results167]
 refine wq ?_
 have head_f:∀ (h:((decide (s=WG) == decide (l.length=2))&&(decide (s=WG) || decide (l.length=0)))=false),wfT (.mk s l)=false:=fun h=>by simp only[wfT,h,jS]
 refine⟨fun q1=>⟨fun q2=>?_,fun q2=>?_⟩,fun q1=>?_⟩
 ·refine VJ (fun hm=>?_) (fun hm=>?_)
  ·have hm:l.length=0:=by simpa using hm
   have hhead:((decide (s=WG) == decide (l.length=2))&&(decide (s=WG) || decide (l.length=0)))=true:=by simp[WG,q2,hm]
   try simp only[go_sem,seval,cG,q2,gp,n1]
   refine(Yd types s rt sz hs).use ?_
   try simp only[go_sem,seval,cG,q2,ge]
   refine⟨fun q3=>?_,fun q3=>?_⟩
   ·obtain⟨e0,he0⟩:∃ e0:Int,e0=40:=⟨_,rfl⟩
    have hfin:∀ x2,x2=(if Vz types l=true then e0 else 40)->x2=if okT types (.mk s l)=true then e else 40:=by
     intro x2 h;rw[h,he0];simp[okT,WG,q2,q3]
    exact nZ
   ·obtain⟨e0,he0⟩:∃ e0:Int,e0=e:=⟨_,rfl⟩
    have hfin:∀ x2,x2=(if Vz types l=true then e0 else 40)->x2=if okT types (.mk s l)=true then e else 40:=by
     intro x2 h;rw[h,he0];simp[okT,q3]
    exact nZ
  ·have hm:¬ l.length=0:=by simpa using hm
   refine uw ?_
   exact .mk (.refl _) ⟨e,(V1 ge).symm,.inr ⟨head_f (by simp[WG,q2,hm]),rfl⟩⟩
 ·refine VJ (fun _=>?_) (fun hm=>by simp at hm)
  have hhead:((decide (s=WG) == decide (l.length=2))&&(decide (s=WG) || decide (l.length=0)))=true:=by
   have:l.length=2:=by simp only[q2,iT] at q1;have:=q1.symm;simp only[kD] at this;omega
   simp[WG,q2,this]
  refine wq ?_
  refine⟨fun h=>absurd q2 h,fun _=>?_⟩
  obtain⟨e0,he0⟩:∃ e0:Int,e0=e:=⟨_,rfl⟩
  have hfin:∀ x2,x2=(if Vz types l=true then e0 else 40)->x2=if okT types (.mk s l)=true then e else 40:=by
   intro x2 h;rw[h,he0];simp[okT,WG,q2]
  exact nZ
 ·refine VJ (fun hm=>by simp at hm) (fun _=>?_)
  refine uw ?_
  refine .mk (.refl _) ⟨e,(V1 ge).symm,.inr ⟨head_f ?_,rfl⟩⟩
  by_cases q2:s=WG
  ·have:¬ l.length=2:=by intro h;exact q1 (by simp[q2,h])
   simp[q2,this]
  ·have:l.length=2:=by
    by_cases h:l.length=2
    ·exact h
    ·exact absurd (by have h':¬ ((l.length:Int)=2):=by omega
                      rw[jY h',jY (show ¬ s={ data:=#[45,62] } from q2)]) q1
   simp[q2,this]
def Uh(types:List Str)(t:Ty):Int:=if X4 t.shape≠0 then X4 t.shape else if wfT t=true then(if okT types t=true then 0 else 40) else 6
theorem bX(bp be bt:Nat)(types:List Str)(rt:Rt)(sz:Nat)(hs:sz=1\/types=[])(rest:List AV)(t:Ty)(e:Int)(σ:Store)(gp:σ.get bp=some (.cells (.list rt sz (ZX types)::rest)))(ge:σ.get be=some (.cells [vi e]))(gt:σ.get bt=some (.cells t.emb)) :
 Zh nC 166 [.val (.pointer (some ⟨bp,0,none⟩)),.val (.pointer (some ⟨be,0,none⟩)),.val (.pointer (some ⟨bt,0,none⟩))] σ
  (fun r σ'=>∃ e',σ'=σ.set be (.cells [vi e'])/\((wfT t=true/\r=.ret (.tup [])/\e'=if okT types t=true then e else 40)\/(wfT t=false/\r=.pan (Yx 6)))):=by
 obtain⟨s,l⟩:=t
 simp only[cQ] at gt
 refine Zb [] [] Tryz.func166 rfl xy ?_;rw[Tryz.ntmps166,Tryz.results166]
 refine uw ?_
 intro bw hbw
 try simp only[go_sem,seval,hbw,gp,ge,gt]
 refine(E2 bp be bw types rt sz hs rest (.mk s l) e _ (by rw[Zg hbw (by rw[gp];rfl)];exact gp) (by rw[Zg hbw (by rw[ge];rfl)];exact ge) xB).mono ?_
 rintro r _ ⟨e',rfl,hr⟩
 rw[SU hbw (by rw[ge];rfl)]
 rcases hr with⟨hw,rfl,he⟩|⟨hw,rfl⟩
 ·refine uw ?_
  exact .mk (.refl _) (.cons _ _) ⟨e',rfl,.inl ⟨hw,rfl,he⟩⟩
 ·refine uw ?_
  exact .mk (.cons _ _) ⟨e',rfl,.inr ⟨hw,rfl⟩⟩
theorem Lt(types:List Str)(rt:Rt)(sz:Nat)(hs:sz=1\/types=[])(c1 c2 c3 c4:AV)(h1:c1.one=true)(h2:c2.one=true)(h3:c3.one=true)(h4:c4.one=true)(t:Ty) :
 Pur nC 107 [.agg [.list rt sz (ZX types),c1,c2,c3,c4],.agg t.emb] (vi (Uh types t)):=by
 intro σ
 have hsz:=L9 t
 obtain⟨s,l⟩:=t
 simp only[cQ] at hsz ⊢
 refine Zb [2,3] [] Tryz.func107 rfl xy ?_;rw[Tryz.ntmps107,Tryz.results107]
 refine uw ?_
 intro b2 hb2 b3 hb3
 try simp only[go_sem,seval,hb2,hb3]
 refine hsz.use ?_
 try simp only[go_sem,seval,hb2,hb3]
 refine⟨fun q=>?_,fun q=>?_⟩
 ·have:Uh types (.mk s l)=X4 (Ty.mk s l).shape:=by unfold Uh;rw[gZ q]
  rw[this]
  exact oS
 ·intro b6 hb6
  have g2:Store.get ((b3,AObj.cells [vs s,.list .none 2 (cI l)])::(b2,.cells [.list rt sz (ZX types),c1,c2,c3,c4])::σ) b2=some (.cells [.list rt sz (ZX types),c1,c2,c3,c4]):=by rw[Zg hb3 xB,Ze]
  have g3:Store.get ((b3,AObj.cells [vs s,.list .none 2 (cI l)])::(b2,.cells [.list rt sz (ZX types),c1,c2,c3,c4])::σ) b3=some (.cells [vs s,.list .none 2 (cI l)]):=Ze _ _ _
  try simp only[go_sem,seval,hb2,hb3,hb6]
  refine Tb _ _ _ (fun b hb=>?_)
  rw[Z4]
  refine(bX b2 b6 b3 types rt sz hs [c1,c2,c3,c4] (.mk s l) 0 _ ?_ ?_ ?_).mono ?_
  ·rw[Zg hb (by rw[Zg hb6 xG,g2];rfl),Zg hb6 xG,g2]
  ·rw[Zg hb xB,Ze]
  ·rw[Zg hb (by rw[Zg hb6 (by rw[g3];rfl),g3];rfl),Zg hb6 (by rw[g3];rfl),g3];rfl
  rintro r _ ⟨e',rfl,hr⟩
  rw[SU hb xB,Yo]
  refine⟨_,rfl,?_⟩
  rcases hr with⟨hw,rfl,he⟩|⟨hw,rfl⟩
  ·refine uw ?_
   have:Uh types (.mk s l)=e':=by unfold Uh;rw[ig (not_not_intro q),gZ hw,he]
   rw[this]
   exact Zz (.refl _) ((((Sub.refl σ).skip _).skip _).skip _)
  ·refine⟨6,rfl,?_⟩
   refine uw ?_
   have:Uh types (.mk s l)=6:=by unfold Uh;rw[ig (not_not_intro q),ig (by rw[hw];simp)]
   rw[this]
   exact Zz (.refl _) ((((Sub.refl σ).skip _).skip _).skip _)
end Go.Vx
end
