/- A part of the proof of clausalSpinesProved. -/
import Derived.Test.YtllgjklcpieanaaGreatDoorR37
import Derived.Test.YtllgjklcpieanaaGreatDoorR21
import Derived.Test.YtllgjklcpieanaaGreatDoorR17
set_option linter.unusedVariables false
set_option linter.unusedSimpArgs false
set_option maxRecDepth 100000
namespace Go.Vx
open Go.Proofs Go.RowKit
def QM(S:Store)(mq:nM Nat)(qf:QF):Prop:=(mq=none/\∀ k,qf k=none)\/∃ (r:Nat) (m:List (Int×AV)),mq=some r/\S.get r=some (.map (ZS keI (Xn m)) m.length)/\(m.map (·.1)).Nodup/\∀ k,Z3 m k=(qf k).map vi
theorem QM.keep{S S':Store}{mq:nM Nat}{qf:QF}(h:QM S mq qf)(k:∀ r m c,S.get r=some (.map m c)->S'.get r=some (.map m c)):QM S' mq qf:=by
 rcases h with h|⟨r,m,h1,h2,h3⟩
 ·exact .inl h
 ·exact .inr ⟨r,m,h1,k _ _ _ h2,h3⟩
theorem IG{P:nE}{t kt et:nF}{z:nG}{mq:nM Nat}{qf:QF}{x:Int}{ok:Bool}{S:Store}{K:AV->Prop}(ht:P.underlying t=some (.map kt et))(hk:P.underlying kt=some (.int .i64))(hz:Zy P et=some z)
 (h:QM S mq qf) (hm:mq≠none) (k:K (lkV z ((qf x).map vi) ok)):UX P t (.val (.map mq)) (.val (.int .i64 x)) ok S K:=by
 rcases h with⟨e,_⟩|⟨r,m,rfl,h2,_,h3⟩
 ·exact absurd e hm
 ·exact Ws ht hk hz h2 (by rw[WW,h3];exact k)
def NSc(bs:Nat)(bd:List Int)(mq:nM Nat)(qf:QF)(S:Store):Prop:=S.get bs=some (.cells [.list .none 1 (Zu bd),.val (.map mq)])/\QM S mq qf
def SlR(own:List Nat)(I T:List Int->Store->Prop)(q:List Int)(σ:Store)(L:List Int):ZE->Store->Prop:=fun r S'=>Yb own σ S'/\((r=.ret (vb true)/\I (q++L) S')\/(r=.ret (vb false)/\∃ p s,L=p++s/\T (q++p) S'))
theorem P9(bd:List Int)(qf:QF)(l m:List Tm)(i:Nat):ZK bd qf (l++m) i=ZK bd qf l i++ZK bd qf m i:=by
 induction l with
 | nil=>rfl
 | cons a r ih=>simp only[kE,ZK,ih,ju]
theorem Oc(bd:List Int)(qf:QF)(l m:List Fm)(i:Nat):Ye bd qf (l++m) i=Ye bd qf l i++Ye bd qf m i:=by
 induction l with
 | nil=>rfl
 | cons a r ih=>simp only[kE,Ye,ih,ju]
theorem X3(bd:List Int)(qf:QF){l:List Tm}{j:Nat}{a:Tm}(i:Nat)(h:l[j]?=some a):ZK bd qf (l.take (j+1)) i=ZK bd qf (l.take j) i++Wz bd qf a i/\ZK bd qf l i=ZK bd qf (l.take j) i++(Wz bd qf a i++ZK bd qf (l.drop (j+1)) i):=by
 constructor
 ·rw[jh,h,jj,P9];simp[ZK]
 ·conv=>lhs;rw[Z6 h,P9]
  rfl
theorem Qi(bd:List Int)(qf:QF){l:List Fm}{j:Nat}{a:Fm}(i:Nat)(h:l[j]?=some a):Ye bd qf (l.take (j+1)) i=Ye bd qf (l.take j) i++YQ bd qf a i/\Ye bd qf l i=Ye bd qf (l.take j) i++(YQ bd qf a i++Ye bd qf (l.drop (j+1)) i):=by
 constructor
 ·rw[jh,h,jj,Oc];simp[Ye]
 ·conv=>lhs;rw[Z6 h,Oc]
  rfl
theorem Tm.nds_kid{k n:Int}{s:Str}{l:List Tm}{x:Tm}(h:x∈l):x.shape.nds<(Tm.mk k n s l).shape.nds:=by
 simp only[Tm.shape,Ro.nds]
 have:x.shape.nds<=cP (cK l):=by
  induction l with
  | nil=>cases h
  | cons b r ih =>
    simp only[cK,cP]
    exact se
 omega
theorem fh{k:Int}{s:Str}{a:List Tm}{t:Ty}{l:List Fm}{x:Tm}(h:x∈a):x.shape.nds<(Fm.mk k s a t l).shape.nds:=by
 have h1:=Tm.nds_kid (k:=0) (n:=0) (s:=s) h
 simp only[Tm.shape,Ro.nds] at h1
 simp only[Fm.shape,Ro.nds,ZL]
 omega
def Wd(bs by_ bt:Nat):nG:=.func (.func 201) #[] #[.pointer (some ⟨bs,0,none⟩),.pointer (some ⟨by_,0,none⟩),.pointer (some ⟨bt,0,none⟩)]
def Sb(bt bf:Nat):nG:=.func (.func 202) #[] #[.pointer (some ⟨bt,0,none⟩),.pointer (some ⟨bf,0,none⟩)]
theorem Cf{y:nG}{own:List Nat}{I T:List Int->Store->Prop}{N:Nat}(hy:Rz nC (.val y) vi own I T N)(bs by_ bt:Nat)(bd:List Int)(mq:nM Nat)(qf:QF)(V:Nat)(hq:mq=none->V=0)(hbd:bd.length<=1000000)
 (hN:∀ q S,I q S->NSc bs bd mq qf S) (ny:by_ ∉ own) (nt:bt ∉ own):∀ (t:Tm) (i:Nat) (q:List Int) (σ:Store),scT V t (i+bd.length)=true->i+t.shape.nds<=1000000->q.length+(Wz bd qf t i).length<=N->I q σ->σ.get by_=some (.cells [.val y])->σ.get bt=some (.cells [.val (Wd bs by_ bt)]) ->
 Zh nC 201 [.agg t.emb,vi i,.val (.pointer (some ⟨bs,0,none⟩)),.val (.pointer (some ⟨by_,0,none⟩)),.val (.pointer (some ⟨bt,0,none⟩))] σ (SlR own I T q σ (Wz bd qf t i)):=by
 intro t
 induction t using ed with|h k n s l ih=>?_
 intro i q σ hsc hnd hql hI gy gt
 refine Zh.ok xy (fun hok=>?_)
 refine vU fun hlen=>?_
 rw[cF] at hlen
 clear hok
 simp only[scT,kJ] at hsc
 obtain⟨hs1,hs2⟩:=hsc
 rw[UJ] at hs2
 obtain⟨gs,hQ⟩:=hN _ _ hI
 have hkid:=fun x (hx:x∈l)=>Tm.nds_kid (k:=k) (n:=n) (s:=s) hx
 simp only[Wz,ii] at hql
 simp only[cO,Wz]
 refine Zb [] [(7,9,0)] Tryz.func201 rfl xy ?_;rw[Tryz.ntmps201,Tryz.results201]
 by_cases h4:k=4
 ·subst h4
  rw[ig xj,gZ rfl] at hs1
  simp only[kJ,kD] at hs1
  have hm:mq≠none:=fun e=>by have:=hq e;omega
  rw[ig xj] at hs2
  rw[gZ rfl,ig xj] at hql
  rw[gZ rfl,ig xj]
  try simp only[go_sem,seval,gs]
  refine IG PQ fa1 Bc hQ hm ?_
  rw[FP]
  cases hqn:qf n with
  | none =>
    simp only[hqn,Option.toList_none,im] at hql
    simp only[mI,kr,mb,Option.toList_none,kF]
    try simp only[go_sem,seval,gs]
    have hI':=hI
    have hkb:=Yb.refl own σ
    exact nW
  | some m =>
    simp only[hqn,jj,ij,im] at hql
    have hst:=hy.step q m σ xh hI
    simp only[jX,ko,mH,jj]
    try simp only[go_sem,seval,gs,gy]
    exact tF
 have z4:=iU h4
 rw[ig h4] at hql
 rw[ig h4]
 by_cases h2:k=2/\(i:Int)<=n
 ·obtain⟨rfl,hin⟩:=h2
  rw[gZ rfl] at hs1
  simp only[kJ,kD] at hs1
  rw[ig xj] at hs2
  rw[gZ ⟨rfl,hin⟩,ig xj] at hql
  simp only[ij,im] at hql
  rw[gZ ⟨rfl,hin⟩,ig xj]
  have x2:(n>=(i:Int))=True:=iS hin
  obtain⟨j,hj⟩:∃ j:Nat,j=bd.length-1-(n-i).toNat:=⟨_,rfl⟩
  have hjl:j<bd.length:=by omega
  have w1:IntKind.i64.wrap ((bd.length:Int)-1)=(bd.length:Int)-1:=Zk xh xh
  have w2:IntKind.i64.wrap (n-(i:Int))=n-i:=Zk xh xh
  have w3:IntKind.i64.wrap ((bd.length:Int)-1-(n-(i:Int)))=(j:Int):=by rw[Zk xh xh];omega
  have hat:atB bd i n=bd[j]:=by
   unfold atB
   rw[<- hj,jQ,iO hjl,ko]
  have gb:(Zu bd)[j]?=some [vi (bd[j])]:=by simp[Zu,hjl]
  rw[hat]
  generalize bd[j]=m at gb
  have hst:=hy.step q m σ xh hI
  have xj0:(0<=(j:Int))=True:=iS xh
  have xj2:((j:Int)>=0)=True:=iS xh
  have xj1:((j:Int)<(bd.length:Int))=True:=iS xh
  try simp only[go_sem,seval,gs,z4,x2,w1,w2,w3,ZZ,xj0,xj1,xj2,gb,gy,iT,iV,iF,jq,jr,jt]
  exact tF
 ·rw[ig h2,im] at hql
  rw[ig h2]
  have hI':=hI
  have hkb:=Yb.refl own σ
  have x2:((k=2)=False)\/((k=2)=True/\(n>=(i:Int))=False):=by
   by_cases e:k=2
   ·exact .inr ⟨iS e,iU fun h=>h2 ⟨e,h⟩⟩
   ·exact .inl (iU e)
  by_cases h5:k=5
  ·subst h5
   rw[gZ rfl] at hs2 hql
   rw[gZ rfl]
   refine uE fun hw=>?_
   rw[show i+bd.length+1=i+1+bd.length by omega] at hs2
   try simp only[go_sem,seval,hw,iT,iV]
   refine Zp (mu:=[]) (dr:=[]) [7,12,72,73,74,75,76,77,78,79,80,81] (fun x:Nat×Store=>[(72,vi x.1)]) (fun x=>x.2)
    (fun x=>x.1<=l.length/\I (q++([]++ZK bd qf (l.take x.1) (i+1))) x.2/\Yb own σ x.2) (fun x=>l.length-x.1) (0,σ) xy ⟨by simp,by simpa[ZK] using hI',hkb⟩ ⟨.refl _,trivial⟩ (.refl _) ?_
   clear hI' hkb
   rintro⟨j,S⟩ ⟨hj,hIj,hkS⟩
   dsimp only at hj hIj hkS
   by_cases hj2:(j:Int)<(l.length:Int)
   ·have x1:=iS hj2
    refine vy fun x0=>?_
    obtain⟨a,ha⟩:∃ a,l[j]?=some a:=⟨l[j]' xh,iO xh⟩
    have g:(cJ l)[j]?=some a.emb:=by rw[cW,jp,ha];rfl
    refine xd fun hw3=>?_
    have hma:=iG ha
    have hka:=hkid a hma
    have gyS:=hkS _ _ gy ny xf
    have gtS:=hkS _ _ gt nt xf
    obtain⟨t1,t2⟩:=X3 bd qf (i+1) ha
    have iha:=ih a hma (i+1)
    have hsa:=hs2 a hma
    have hqn2:=je List.length t2
    simp only[ii] at hqn2
    generalize Wz bd qf a (i+1)=ta at iha t1 t2 hqn2
    obtain⟨ka,na,sa,la⟩:=a
    simp only[cO] at g iha
    try simp only[go_sem,seval,cF,x0,x1,g,iT,iF,jq,jr,jt]
    intro b9 hb9
    have gt9:=(Zg hb9 xI (.cells [vi ka,vi na,vs sa,.list .none 4 (cJ la)])).trans gtS
    have gy9:=(Zg hb9 xH (.cells [vi ka,vi na,vs sa,.list .none 4 (cJ la)])).trans gyS
    have hI9:=hy.cons _ _ _ (.cells [vi ka,vi na,vs sa,.list .none 4 (cJ la)]) hIj hb9
    refine ww fun hk9=>?_
    try simp only[go_sem,seval,gt9,Wd]
    refine(iha _ _ hsa xh yv hI9 gy9 gt9).mono ?_
    rintro r S2 ⟨hk2,(⟨rfl,h2⟩|⟨rfl,p,s2,hp,hT⟩)⟩
    ·exact oe
    ·refine uw ?_
     refine .mk (.refl _) (.refl _) ⟨hk9.trans hk2,.inr ⟨rfl,[]++(ZK bd qf (l.take j) (i+1)++p),s2++ZK bd qf (l.drop (j+1)) (i+1),?_,?_⟩⟩
     ·rw[t2,hp];simp[ju]
     ·simpa[ju] using hT
   ·exact oT
  ·have z5:=iU h5
   rw[ig h5] at hs2 hql
   rw[ig h5]
   rcases x2 with x2|⟨x2,x3⟩
   ·try simp only[go_sem,seval,z4,z5,x2,iT,iV]
    exact nW
   ·try simp only[go_sem,seval,z4,z5,x2,x3,iT,iV]
    exact nW
theorem Ch{y:nG}{own:List Nat}{I T:List Int->Store->Prop}{N:Nat}(hy:Rz nC (.val y) vi own I T N)(bs by_ bt bf:Nat)(bd:List Int)(mq:nM Nat)(qf:QF)(V:Nat)(hq:mq=none->V=0)(hbd:bd.length<=1000000)
 (hN:∀ q S,I q S->NSc bs bd mq qf S) (ny:by_ ∉ own) (nt:bt ∉ own) (nf:bf ∉ own):∀ (f:Fm) (i:Nat) (q:List Int) (σ:Store),scF V f (i+bd.length)=true->i+f.shape.nds<=1000000->q.length+(YQ bd qf f i).length<=N->I q σ->σ.get by_=some (.cells [.val y])->σ.get bt=some (.cells [.val (Wd bs by_ bt)])->σ.get bf=some (.cells [.val (Sb bt bf)]) ->
 Zh nC 202 [.agg f.emb,vi i,.val (.pointer (some ⟨bt,0,none⟩)),.val (.pointer (some ⟨bf,0,none⟩))] σ (SlR own I T q σ (YQ bd qf f i)):=by
 intro f
 have hterm:=Cf hy bs by_ bt bd mq qf V hq hbd hN ny nt
 induction f using eg with|h k s a ty l ih=>?_
 obtain⟨ts,tl⟩:=ty
 intro i q σ hsc hnd hql hI gy gt gf
 refine Zh.ok xy (fun hok=>?_)
 have hlen:=(((hok (.agg (Fm.mk k s a (.mk ts tl) l).emb) xf).agg (c:=.list .none 4 (cJ a)) xt).len)
 have hlen2:=(((hok (.agg (Fm.mk k s a (.mk ts tl) l).emb) xf).agg (c:=.list .none 6 (cN l)) xt).len)
 rw[cF] at hlen
 rw[cU] at hlen2
 clear hok
 simp only[scF,kJ] at hsc
 obtain⟨⟨hs1,hs2⟩,hs3⟩:=hsc
 rw[UJ] at hs1
 rw[Mr] at hs2
 have hkid:=fun x (hx:x∈l)=>Fm.nds_kid (k:=k) (s:=s) (a:=a) (t:=.mk ts tl) hx
 have harg:=fun x (hx:x∈a)=>fh (k:=k) (s:=s) (t:=.mk ts tl) (l:=l) hx
 simp only[YQ,ii] at hql
 simp only[cM,YQ]
 have hkb:=Yb.refl own σ
 refine Zb [] [] Tryz.func202 rfl xy ?_;rw[Tryz.ntmps202,Tryz.results202]
 by_cases h10:k=10\/k=11
 ·rw[gZ h10] at hs2 hql
  rw[gZ h10]
  have ha:a=[]:=by
   rcases h10 with rfl|rfl<;>simpa using hs3
  refine uE fun hw=>?_
  rw[show i+bd.length+1=i+1+bd.length by omega] at hs2
  have hs1':∀ t∈a,scT V t (i+1+bd.length)=true:=fun t ht=>by rw[ha] at ht;cases ht
  rcases h10 with rfl|rfl
  ·try simp only[go_sem,seval,hw,iT,iV]
   exact nU
  ·have z:((11:Int)=10)=False:=by decide
   try simp only[go_sem,seval,z,hw,iT,iV]
   exact nU
 ·have z1:(k=10)=False:=iU fun e=>h10 (.inl e)
  have z2:(k=11)=False:=iU fun e=>h10 (.inr e)
  rw[ig h10] at hs2 hql
  rw[ig h10]
  try simp only[go_sem,seval,z1,z2,iT,iV]
  refine Zp (mu:=[]) (dr:=[]) [6,8,24,25,26,27,28,29,30,31,32,33] (fun x:Nat×Store=>[(24,vi x.1)]) (fun x=>x.2)
   (fun x=>x.1<=a.length/\I (q++(ZK bd qf (a.take x.1) i)) x.2/\Yb own σ x.2) (fun x=>a.length-x.1) (0,σ) xy ⟨by simp,by simpa[ZK] using hI,hkb⟩ ⟨.refl _,trivial⟩ (.refl _) ?_
  rintro⟨j,S⟩ ⟨hj,hIj,hkS⟩
  dsimp only at hj hIj hkS
  by_cases hj2:(j:Int)<(a.length:Int)
  ·have x1:=iS hj2
   refine vy fun x0=>?_
   obtain⟨t,ht⟩:∃ t,a[j]?=some t:=⟨a[j]' xh,iO xh⟩
   have g:(cJ a)[j]?=some t.emb:=by rw[cW,jp,ht];rfl
   refine xd fun hw3=>?_
   have hma:=iG ht
   have hka:=harg t hma
   have gyS:=hkS _ _ gy ny xf
   have gtS:=hkS _ _ gt nt xf
   obtain⟨t1,t2⟩:=X3 bd qf i ht
   have iha:=hterm t i
   have hsa:=hs1 t hma
   have hqn2:=je List.length t2
   simp only[ii] at hqn2
   generalize Wz bd qf t i=ta at iha t1 t2 hqn2
   obtain⟨ka,na,sa,la⟩:=t
   simp only[cO] at g iha
   try simp only[go_sem,seval,cF,x0,x1,g,iT,iF,jq,jr,jt]
   intro b9 hb9
   have gt9:=(Zg hb9 xI (.cells [vi ka,vi na,vs sa,.list .none 4 (cJ la)])).trans gtS
   have gy9:=(Zg hb9 xH (.cells [vi ka,vi na,vs sa,.list .none 4 (cJ la)])).trans gyS
   have hI9:=hy.cons _ _ _ (.cells [vi ka,vi na,vs sa,.list .none 4 (cJ la)]) hIj hb9
   refine ww fun hk9=>?_
   try simp only[go_sem,seval,gt9,Wd]
   refine(iha _ _ hsa xh yv hI9 gy9 gt9).mono ?_
   rintro r S2 ⟨hk2,(⟨rfl,h2⟩|⟨rfl,p,s2,hp,hT⟩)⟩
   ·exact oe
   ·refine uw ?_
    refine .mk (.refl _) (.refl _) ⟨hk9.trans hk2,.inr ⟨rfl,(ZK bd qf (a.take j) i++p),s2++ZK bd qf (a.drop (j+1)) i++Ye bd qf l i,?_,?_⟩⟩
    ·rw[t2,hp];simp[ju]
    ·simpa[ju] using hT
  ·have x1:=iU hj2
   refine wY ?_
   rw[iW xh] at hIj
   clear x1
   refine Zp (mu:=[]) (dr:=[]) [6,10,37,38,39,40,41,42,43,44,45,46] (fun x:Nat×Store=>[(37,vi x.1)]) (fun x=>x.2)
    (fun x=>x.1<=l.length/\I (q++(ZK bd qf a i++Ye bd qf (l.take x.1) i)) x.2/\Yb own σ x.2) (fun x=>l.length-x.1) (0,S) xy ⟨by simp,by simpa[Ye] using hIj,hkS⟩ ⟨.refl _,trivial⟩ (.refl _) ?_
   clear hj hj2 hIj hkS
   rintro⟨j,S⟩ ⟨hj,hIj,hkS⟩
   dsimp only at hj hIj hkS
   by_cases hj2:(j:Int)<(l.length:Int)
   ·have x1:=iS hj2
    refine vy fun x0=>?_
    obtain⟨t,ht⟩:∃ t,l[j]?=some t:=⟨l[j]' xh,iO xh⟩
    have g:(cN l)[j]?=some t.emb:=by rw[dz,jp,ht];rfl
    refine xd fun hw3=>?_
    have hma:=iG ht
    have hka:=hkid t hma
    have gyS:=hkS _ _ gy ny xf
    have gtS:=hkS _ _ gt nt xf
    have gfS:=hkS _ _ gf nf xf
    obtain⟨t1,t2⟩:=Qi bd qf i ht
    have iha:=ih t hma i
    have hsa:=hs2 t hma
    have hqn2:=je List.length t2
    simp only[ii] at hqn2
    generalize YQ bd qf t i=ta at iha t1 t2 hqn2
    obtain⟨ka,na,sa,⟨tsa,tla⟩,la⟩:=t
    simp only[cM] at g iha
    try simp only[go_sem,seval,cU,x0,x1,g,iT,iF,jq,jr,jt]
    intro b9 hb9
    obtain⟨Q9,hQ9⟩:∃ Q9:AObj,Q9=.cells [vi ka,vs na,.list .none 4 (cJ sa),vs tsa,.list .none 2 (cI tla),.list .none 6 (cN la)]:=⟨_,rfl⟩
    have gt9:=(Zg hb9 xI Q9).trans gtS
    have gy9:=(Zg hb9 xH Q9).trans gyS
    have gf9:=(Zg hb9 (by rw[gfS];rfl) Q9).trans gfS
    have hI9:=hy.cons _ _ _ Q9 hIj hb9
    have hk9:Yb own σ ((b9,Q9)::S):=fun k x h1 h2 h3=>by rw[Zg hb9 yu];exact hkS k x h1 h2 h3
    rw[hQ9] at gt9 gy9 gf9 hI9 hk9
    try simp only[go_sem,seval,gf9,Sb]
    refine(iha _ _ hsa xh yv hI9 gy9 gt9 gf9).mono ?_
    rintro r S2 ⟨hk2,(⟨rfl,h2⟩|⟨rfl,p,s2,hp,hT⟩)⟩
    ·exact oe
    ·refine uw ?_
     refine .mk (.refl _) (.refl _) ⟨hk9.trans hk2,.inr ⟨rfl,(ZK bd qf a i++(Ye bd qf (l.take j) i++p)),s2++Ye bd qf (l.drop (j+1)) i,?_,?_⟩⟩
     ·rw[t2,hp];simp[ju]
     ·simpa[ju] using hT
   ·have x1:=iU hj2
    try simp only[go_sem,seval,cU,x1,iV]
    rw[iW xh] at hIj
    exact .mk (.refl _) (.refl _) ⟨hkS,.inl ⟨rfl,hIj⟩⟩
def NF(bs bf:Nat)(bd:List Int)(mq:nM Nat)(qf:QF)(f:Fm)(S:Store):Prop:=NSc bs bd mq qf S/\S.get bf=some (.cells f.emb)
theorem G0(bs bf:Nat)(bd:List Int)(mq:nM Nat)(qf:QF)(V:Nat)(f:Fm)(hq:mq=none->V=0)(hbd:bd.length<=900000)(hsc:scF V f bd.length=true)(hnd:f.shape.nds<=100000) :
 B6 nC 200 [.pointer (some ⟨bs,0,none⟩),.pointer (some ⟨bf,0,none⟩)] (NF bs bf bd mq qf f) vi (YQ bd qf f 0):=by
 intro yf ya yb own I T σ hy hN hI
 have hform:=fun b3 b4 b5 n3 n4 n5=>Ch hy bs b3 b4 b5 bd mq qf V hq xh (fun q S h=>(hN q S h).1) n3 n4 n5 f 0
 have g0:=(hN _ _ hI).2
 generalize YQ bd qf f 0=out at hform ⊢
 obtain⟨fk,fs,fa,⟨fts,ftl⟩,fl⟩:=f
 simp only[cM] at g0 hform
 refine Zb [3] [] Tryz.func200 rfl xy ?_;rw[Tryz.ntmps200,Tryz.results200]
 refine uw ?_
 intro b3 hb3 b4 hb4
 refine uw ?_
 intro b5 hb5
 have I3:=hy.cons _ _ _ (.cells [.val (.func yf ya yb)]) hI hb3
 have I4:=hy.cons _ _ _ (.cells [.val (Wd bs b3 b4)]) I3 hb4
 have hb5':Zm ((b4,AObj.cells [.val (Wd bs b3 b4)])::(b3,AObj.cells [.val (.func yf ya yb)])::σ) b5:=hb5
 have I5:=hy.cons _ _ _ (.cells [.val (Sb b4 b5)]) I4 hb5'
 have n3:=hy.notin hI hb3
 have n4:=hy.notin I3 hb4
 have n5:=hy.notin I4 hb5'
 have n53:=(Zv (x:=.cells [.val (.func yf ya yb)]) (a:=b3) (by rw[Zc hb4.1.symm,Ze]) hb5').symm
 have n54:=hb5.1.symm
 have n43:=hb4.1.symm
 have g5:Store.get ((b5,AObj.cells [.val (Sb b4 b5)])::(b4,AObj.cells [.val (Wd bs b3 b4)])::(b3,AObj.cells [.val (.func yf ya yb)])::σ) bf=some (.cells [vi fk,vs fs,.list .none 4 (cJ fa),vs fts,.list .none 2 (cI ftl),.list .none 6 (cN fl)]):=(hN _ _ I5).2
 have g6:Store.get ((b5,AObj.cells [.val (Sb b4 b5)])::(b4,AObj.cells [.val (Wd bs b3 b4)])::(b3,AObj.cells [.val (.func yf ya yb)])::σ) b3=some (.cells [.val (.func yf ya yb)]):=by rw[Zc n53,Zc n43,Ze]
 have g7:Store.get ((b5,AObj.cells [.val (Sb b4 b5)])::(b4,AObj.cells [.val (Wd bs b3 b4)])::(b3,AObj.cells [.val (.func yf ya yb)])::σ) b4=some (.cells [.val (Wd bs b3 b4)]):=by rw[Zc n54,Ze]
 have hf:=hform b3 b4 b5 n3 n4 n5 [] _ (by simpa using hsc) xh xf I5 g6 g7 (Ze _ _ _)
 simp only[Wd,Sb] at hf g5
 try simp only[go_sem,seval,g5]
 refine hf.mono ?_
 rintro r S' ⟨hkb,(⟨rfl,hI'⟩|⟨rfl,p,s,hp,hT⟩)⟩
 ·refine uw ?_
  exact .mk (.refl _) (.refl _) ⟨rfl,.inl (by simpa using hI')⟩
 ·refine uw ?_
  exact .mk (.refl _) (.refl _) ⟨rfl,.inr ⟨p,s,hp,by simpa using hT⟩⟩
theorem Cd(f:Fm)(bd:List Int)(mq:nM Nat)(σ:Store):Zh nC 135 [.agg f.emb,.agg [.list .none 1 (Zu bd),.val (.map mq)]] σ (fun r S'=>∃ bs bf,Zm σ bf/\S'=(bs,.cells [.list .none 1 (Zu bd),.val (.map mq)])::(bf,.cells f.emb)::σ/\Zm ((bf,AObj.cells f.emb)::σ) bs/\r=.ret (.val (.func (.func 200) #[] #[.pointer (some ⟨bs,0,none⟩),.pointer (some ⟨bf,0,none⟩)]))):=by
 obtain⟨fk,fs,fa,⟨fts,ftl⟩,fl⟩:=f
 simp only[cM]
 refine Zb [2,3] [] Tryz.func135 rfl xy ?_;rw[Tryz.ntmps135,Tryz.results135]
 refine uw ?_
 intro b2 hb2 b3 hb3
 refine uw ?_
 exact .mk (.refl _) (.refl _) ⟨b3,b2,hb2,rfl,hb3,rfl⟩
end Go.Vx
