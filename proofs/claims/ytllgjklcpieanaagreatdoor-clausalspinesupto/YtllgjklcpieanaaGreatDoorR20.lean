/- A part of the proof of clausalSpinesProved. -/
import Derived.Test.YtllgjklcpieanaaGreatDoorR16
import Derived.Test.YtllgjklcpieanaaGreatDoorR19
import Derived.Test.YtllgjklcpieanaaGreatDoorR14
set_option linter.unusedVariables false
set_option linter.unusedSimpArgs false
set_option maxRecDepth 100000
section
namespace Go.Vx
open Go.Proofs
def Z1(t:Ty):Bool:=decide (Uh [] t=0) || decide (Uh [] t=40)
theorem ao(t:Ty):Pur nC 107 [.agg [.list .full 0 [],.list .full 0 [],.list .full 0 [],.list .full 0 [],.list .full 0 []],.agg t.emb] (vi (Uh [] t)) :=
 Lt [] .full 0 (.inr rfl) _ _ _ _ rfl rfl rfl rfl t
theorem OD(t:Ty):Pur nC 226 [.agg t.emb] (vb (Z1 t)):=by
 intro σ
 have hc:=ao t
 have hd:Z1 t=(decide (Uh [] t=0) || decide (Uh [] t=40)):=rfl
 obtain⟨s,l⟩:=t
 simp only[cQ] at hc ⊢
 refine Zb [] [] Tryz.func226 rfl xy ?_;rw[Tryz.ntmps226,Tryz.results226]
 exact rg
theorem Je(t:Ty):Pur nC 106 [.agg t.emb] (vb (!Z1 t)):=by
 intro σ
 have hc:=ao t
 have hd:Z1 t=(decide (Uh [] t=0) || decide (Uh [] t=40)):=rfl
 obtain⟨s,l⟩:=t
 simp only[cQ] at hc ⊢
 refine Zb [] [] Tryz.func106 rfl xy ?_;rw[Tryz.ntmps106,Tryz.results106]
 exact rg
theorem ap{P:nE}{k n:Nat}{args:List AV}{b:Nat->Bool}{c:Bool}(h:∀ σ,Zh P k args σ (PA b n (fun _=>σ)))(hc:c=true↔∃ i,i<n/\b i=true):Pur P k args (vb c):=by
 intro σ
 refine(h σ).mono ?_
 rintro r σ' (⟨i,hi,hb,_,rfl,rfl⟩|⟨hn,rfl,rfl⟩)
 ·rw[hc.2 ⟨i,hi,hb⟩];exact⟨rfl,rfl⟩
 ·exact rx
theorem VS(l:List Ty)(rt:Rt)(sz:Nat)(hs:sz=2\/l=[]):Pur nC 62 [.list rt sz (cI l)] (vb (l.all Z1)):=by
 intro σ
 have hk:Pur nC 105 [.list rt sz (cI l),.val (.func (.func 106) #[] #[])] (vb (!(l.all Z1))):=by
  refine ap (b:=fun i=>match l[i]? with|some t=>!Z1 t|none=>false) (n:=l.length) (fun σ=>?_) ?_
  ·have:=Uu (.func (.func 106) #[] #[]) rt sz (cI l) (fun _=>σ) (fun i=>match l[i]? with|some t=>!Z1 t|none=>false) (hs.imp id (fun h=>by rw[h];rfl)) (fun i e he=>by obtain⟨t,_,rfl⟩:=dJ he;cases t;rfl)
    (fun i e he _=>by
     obtain⟨t,ht,rfl⟩:=dJ he
     rw[Z4]
     simp only[ht]
     exact Je t σ)
   rw[cG] at this
   exact this
  ·constructor
   ·intro h
    simp only[lS,mR] at h
    obtain⟨t,ht,hf⟩:=h
    obtain⟨i,hi,rfl⟩:=iN ht
    exact⟨i,hi,by simp only[iO hi];simpa using hf⟩
   ·rintro⟨i,hi,hb⟩
    simp only[iO hi] at hb
    simp only[lS,mR]
    exact⟨l[i],kj hi,by simpa using hb⟩
 refine Zb [] [] Tryz.func62 rfl xy ?_;rw[Tryz.ntmps62,Tryz.results62]
 refine uw ?_
 refine hk.use ?_
 exact oP
mutual
def UC:Ty->Ty->Bool
 | .mk s l,.mk s' l'=>decide (s=s')&&Vd l l'
def Vd:List Ty->List Ty->Bool
 | [],[]=>true
 | a::r,b::q=>UC a b&&Vd r q
 | _,_=>false
end
theorem OI:∀ (l m:List Ty),Vd l m=true->l.length=m.length
 | [],[],_=>rfl
 | a::r,b::q,h=>by simp only[Vd,kJ] at h;simp[OI r q h.2]
 | [],_::_,h=>by simp[Vd] at h
 | _::_,[],h=>by simp[Vd] at h
theorem Rm:∀ (l m:List Ty),l.length=m.length->(Vd l m=true↔∀ (i:Nat) (a b:Ty),l[i]?=some a->m[i]?=some b->UC a b=true)
 | [],[],_=>by simp[Vd]
 | a::r,b::q,h=>by
   simp only[Vd,kJ,Rm r q xJ]
   constructor
   ·rintro⟨h1,h2⟩ i x y hx hy
    cases i with
    | zero=>simp at hx hy;subst hx;subst hy;exact h1
    | succ i=>exact h2 i x y xO (by simpa using hy)
   ·intro k;exact⟨k 0 a b rfl rfl,fun i x y hx hy=>k (i+1) x y xO (by simpa using hy)⟩
 | [],_::_,h=>by simp at h
 | _::_,[],h=>by simp at h
theorem OJ(g:nL)(l m:List Ty)(r1 r2:Rt)(s1 s2:Nat)(h1:s1=2\/l=[])(h2:s2=2\/m=[])(hf:∀ a∈l,∀ b,Pur nC g [.agg a.emb,.agg b.emb] (vb (UC a b))) :
 Pur nC 80 [.list r1 s1 (cI l),.list r2 s2 (cI m),.val (.func (.func g) #[] #[])] (vb (Vd l m)):=by
 intro σ
 refine Zh.ok xy (fun hok=>?_)
 have hl:=(hok _ ir).len
 rw[cG] at hl
 clear hok
 refine Zb [] [] Tryz.func80 rfl xy ?_;rw[Tryz.ntmps80,Tryz.results80]
 refine wq ?_
 refine⟨fun q=>Zs ?_,fun q=>?_⟩
 ·cases h:Vd l m with
  | false=>rfl
  | true=>exact absurd (by have:=OI l m h;omega) q
 ·have q:l.length=m.length:=by omega
  refine Zp (mu:=[]) (dr:=[]) [6,7,8,9,17,18,19,20,21,22,23,24,25,26,27,28,29,30,31] (fun i:Nat=>[(17,vi i)]) (fun _=>σ) (fun i=>i<=l.length/\∀ (j:Nat) (a b:Ty),j<i->l[j]?=some a->m[j]?=some b->UC a b=true) (fun i=>l.length-i) 0 xy ⟨by omega,fun j a b hj=>by omega⟩ ⟨.refl _,trivial⟩ (.refl _) ?_
  rintro i ⟨hi,hb⟩
  refine wq ?_
  refine⟨fun g1=>⟨?_,by omega,g1,fun c hc=>?_⟩,fun g1=>?_⟩
  ·rcases h1 with h1|h1
   ·rw[h1]
   ·rw[h1] at g1;simp at g1;omega
  ·rw[iF] at hc
   obtain⟨a,ha,rfl⟩:=dJ hc
   have hfa:=hf a (iG ha)
   obtain⟨sa,la⟩:=a
   try simp only[go_sem,seval,cQ]
   intro b8 hb8
   refine wq ?_
   refine⟨?_,by omega,by omega,fun c hc=>?_⟩
   ·rcases h2 with h2|h2
    ·rw[h2]
    ·exfalso;rw[h2,im] at q;omega
   rw[iF] at hc
   obtain⟨d,hd,rfl⟩:=dJ hc
   have hfd:=hfa d
   obtain⟨sd,ld⟩:=d
   try simp only[go_sem,seval,cQ]
   intro b9 hb9
   try simp only[go_sem,seval,hb9,hb8]
   refine hfd.use ?_
   cases he:UC (Ty.mk sa la) (Ty.mk sd ld) with
   | true =>
     refine uw ?_
     refine uR ?_
     refine .mk (i+1) ⟨by omega,fun j a b hj hja hjb=>?_⟩ xh ⟨.refl _,trivial⟩ yS ((Sub.refl σ).skip _ |>.skip _)
     by_cases e:j=i
     ·subst e;rw[ha] at hja;rw[hd] at hjb;injection hja with hja;injection hjb with hjb;subst hja;subst hjb;exact he
     ·exact hb j a b xh hja hjb
   | false =>
     refine uw ?_
     have:Vd l m=false:=by
      cases h:Vd l m with
      | false=>rfl
      | true=>have:=(Rm l m q).1 h i _ _ ha hd;rw[he] at this;cases this
     rw[this]
     exact Zz (.refl _) ((Sub.refl σ).skip _ |>.skip _)
  ·have:Vd l m=true:=(Rm l m q).2 (fun j a b hja hjb=>hb j a b (by have:=(List.getElem?_eq_some_iff.1 hja).1;omega) hja hjb)
   rw[this]
   exact Zl
theorem EQ(a:Ty):∀ b,Pur nC 227 [.agg a.emb,.agg b.emb] (vb (UC a b)):=by
 induction a using eC with|h s l ih=>?_
 intro b σ
 obtain⟨s',l'⟩:=b
 simp only[cQ]
 refine Zb [] [] Tryz.func227 rfl xy ?_;rw[Tryz.ntmps227,Tryz.results227]
 refine uw ?_
 refine⟨fun h=>?_,fun h=>?_⟩
 ·refine(OJ 227 l l' .none .none 2 2 (.inl rfl) (.inl rfl) ih).use ?_
  refine uw ?_
  exact Zs (by simp[UC,h])
 ·exact Zs (by simp[UC,h])
theorem Qn(a b:Ty):Pur nC 171 [.agg a.emb,.agg b.emb] (vb (Z1 a&&Z1 b&&UC a b)):=by
 intro σ
 have ha:=OD a
 have hb:=OD b
 have he:=EQ a b
 generalize hfa:Z1 a=fa at ha ⊢
 generalize hfb:Z1 b=fb at hb ⊢
 generalize heq:UC a b=eq at he ⊢
 obtain⟨s,l⟩:=a
 obtain⟨s',l'⟩:=b
 simp only[cQ] at ha hb he ⊢
 refine Zb [] [] Tryz.func171 rfl xy ?_;rw[Tryz.ntmps171,Tryz.results171]
 refine uw ?_
 refine ha.use ?_
 cases fa with
 | false =>
   exact oP
 | true =>
   refine uw ?_
   refine hb.use ?_
   cases fb with
   | false =>
     exact oP
   | true =>
     refine uw ?_
     refine he.use ?_
     exact oP
end Go.Vx
end
section
namespace Go.Vx
open Go.Proofs
abbrev ZO (s:Str):Bool:=ZC 1 s
abbrev Xu:Str:={ data:=#[] }
def RH(k n:Int)(s:Str)(len:Nat):Bool :=
 if k=1 then decide (n=0)&&ZO s&&decide (len<=8)
 else if k=2\/k=3\/k=4 then decide (0<=n)&&decide (n<=100000)&&decide (s=Xu)&&decide (len<=8)
 else decide (k=5)&&decide (n=0)&&decide (s=Xu)&&decide (len=1)
theorem Ax(k n:Int)(s:Str)(l:List Tm):Pur nC 130 [.agg (Tm.mk k n s l).emb] (vb (RH k n s l.length)):=by
 intro σ
 have hl8:((l.length:Int)<=8)=(l.length<=8):=by simp only[eq_iff_iff];omega
 have hl1:((l.length:Int)=1)=(l.length=1):=by simp only[eq_iff_iff];omega
 simp only[cO]
 refine Zb [] [] Tryz.func130 rfl xy ?_;rw[Tryz.ntmps130,Tryz.results130]
 by_cases k1:k=1
 ·subst k1
  have hd:RH 1 n s l.length=(decide (n=0)&&ZC 1 s&&decide (l.length<=8)):=by simp[RH]
  rw[hd]
  refine wG ?_
  refine⟨fun h=>?_,fun h=>?_⟩
  ·refine(Ek s).use ?_
   cases ZC 1 s with
   | true =>
     refine wG ?_
     exact Zs xm
   | false =>
     refine wG ?_
     exact Zs xf
  ·exact Zs xm
 ·by_cases k2:k=2\/k=3\/k=4
  ·have hd:RH k n s l.length=(decide (0<=n)&&decide (n<=100000)&&decide (s=Xu)&&decide (l.length<=8)):=by simp[RH,k1,k2]
   rw[hd]
   rcases k2 with rfl|rfl|rfl
   ·refine wG ?_
    exact pA
   ·refine wG ?_
    exact pA
   ·refine wG ?_
    exact pA
  ·have hd:RH k n s l.length=(decide (k=5)&&decide (n=0)&&decide (s=Xu)&&decide (l.length=1)):=by simp[RH,k1,k2]
   rw[hd]
   have a2:¬ k=2:=fun h=>k2 (.inl h)
   have a3:¬ k=3:=fun h=>k2 (.inr (.inl h))
   have a4:¬ k=4:=fun h=>k2 (.inr (.inr h))
   try simp only[go_sem,seval,cF,hl1,k1,a2,a3,a4,iV]
   exact pA
mutual
def PD:Tm->Bool
 | .mk k n s l=>RH k n s l.length&&TA l
def TA:List Tm->Bool
 | []=>true
 | t::r=>PD t&&TA r
end
theorem Og(l m:List Tm):TA (l++m)=(TA l&&TA m):=by
 induction l with
 | nil=>rfl
 | cons a r ih=>simp only[kE,TA,ih,Bool.and_assoc]
def bM(bw:Nat):nG:=.func (.func 128) #[] #[.pointer (some ⟨bw,0,none⟩)]
theorem IZ(bw:Nat):∀ (t:Tm) (σ:Store),σ.get bw=some (.cells [.val (bM bw)]) ->
 Zh nC 128 [.agg t.emb,.val (.pointer (some ⟨bw,0,none⟩))] σ (fun r σ'=>σ'=σ/\r=if PD t then .ret (.tup []) else .pan (Yx 6)):=by
 intro t
 induction t using ed with|h k n s l ih=>?_
 intro σ gw
 have hnode:=Ax k n s l
 refine Zh.ok xy (fun hok=>?_)
 refine vw fun hlen=>?_
 rw[cF] at hlen
 clear hok
 simp only[cO] at hnode ⊢
 refine Zb [] [] Tryz.func128 rfl xy ?_;rw[Tryz.ntmps128,Tryz.results128]
 refine uw ?_
 refine hnode.use ?_
 refine uw ?_
 refine VJ (fun hm=>?_) (fun hm=>?_)
 ·refine uw ?_
  refine Zp (mu:=[]) (dr:=[]) [4,11,12,13,14,15,16,17,18] (fun i:Nat=>[(11,vi i)]) (fun _=>σ) (fun i=>i<=l.length/\TA (l.take i)=true) (fun i=>l.length-i) 0 xy ⟨by omega,by simp[TA]⟩ ⟨.refl _,trivial⟩ (.refl _) ?_
  rintro i ⟨hi,hr⟩
  try simp only[go_sem,seval,cF]
  refine⟨fun hi2=>⟨by omega,hi2,fun c hc=>?_⟩,fun hi2=>?_⟩
  ·rw[iF] at hc
   obtain⟨a,ha,rfl⟩:=dQ hc
   have iha:=ih a (iG ha) σ gw
   obtain⟨ka,na,sa,la⟩:=a
   try simp only[go_sem,seval,cO]
   intro b9 hb9
   try simp only[go_sem,seval,cO,hb9,gw,bM]
   refine(iha.sub (.cons _ _)).mono ?_
   have hsp:=Z6 ha
   rintro r σ' ⟨h1,h2⟩
   rw[h1,h2]
   cases hw:PD (Tm.mk ka na sa la) with
   | true =>
     refine uw ?_
     refine uR ?_
     refine .mk (i+1) ⟨by omega,?_⟩ xh ⟨.refl _,trivial⟩ yS (.refl _)
     rw[jh,ha,jj,Og,hr];simp[TA,hw]
   | false =>
     refine uw ?_
     refine .mk (.refl _) ⟨rfl,?_⟩
     have:PD (.mk k n s l)=false:=by rw[PD,hsp,Og];simp[TA,hw]
     rw[this];rfl
  ·have hil:l.take i=l:=iW xh
   rw[hil] at hr
   refine .mk (.refl _) (.refl _) ⟨rfl,?_⟩
   rw[PD,hr,hm];rfl
 ·refine uw ?_
  refine .mk (.refl _) ⟨rfl,?_⟩
  rw[PD,hm];rfl
def Vy(t:Tm):Int:=if X4 t.shape≠0 then X4 t.shape else if PD t=true then 0 else 6
theorem My(t:Tm):Pur nC 70 [.agg t.emb] (vi (Vy t)):=by
 intro σ
 have hsz:=Ka t
 have hw:=fun bw=>IZ bw t
 have hd:Vy t=if X4 t.shape≠0 then X4 t.shape else if PD t=true then 0 else 6:=rfl
 rw[hd]
 generalize X4 t.shape=e at hsz ⊢
 generalize PD t=rt at hw ⊢
 obtain⟨k,n,s,l⟩:=t
 simp only[cO] at hsz hw ⊢
 refine Zb [1] [] Tryz.func70 rfl xy ?_;rw[Tryz.ntmps70,Tryz.results70]
 refine uw ?_
 intro b1 hb1
 try simp only[go_sem,seval,hb1]
 refine hsz.use ?_
 try simp only[go_sem,seval,hb1]
 refine⟨fun q=>?_,fun q=>?_⟩
 ·rw[gZ q]
  exact oW
 ·rw[ig (not_not_intro q)]
  refine Tb _ _ _ (fun b hb=>?_)
  rw[Z4]
  have g1:Store.get ((b,AObj.cells [vi 0])::(b1,.cells [vi k,vi n,vs s,.list .none 4 (cJ l)])::σ) b1=some (.cells [vi k,vi n,vs s,.list .none 4 (cJ l)]):=by rw[Zg hb xB,Ze]
  have hk:∀ S:Store,S.get b1=some (.cells [vi k,vi n,vs s,.list .none 4 (cJ l)])->Zh nC 127 [.val (.pointer (some ⟨b1,0,none⟩))] S (fun r σ'=>σ'=S/\r=if rt then .ret (.tup []) else .pan (Yx 6)):=by
   intro S gS
   refine Zb [] [] Tryz.func127 rfl xy ?_;rw[Tryz.ntmps127,Tryz.results127]
   refine uw ?_
   intro bw hbw
   try simp only[go_sem,seval,hbw,gS]
   refine(hw bw _ xB).mono ?_
   rintro r σ' ⟨h1,h2⟩
   rw[h1,h2]
   cases rt with
   | true =>
     refine uw ?_
     exact pJ
   | false =>
     exact sj
  refine(hk _ g1).mono ?_
  rintro r σ' ⟨h1,h2⟩
  refine⟨_,h1,?_⟩
  rw[h2]
  cases rt with
  | true =>
    exact tT
  | false =>
    refine⟨6,rfl,?_⟩
    exact tT
mutual
def Y9:Tm->Int->List (Tm×Int)
 | .mk k n s l,b=>(.mk k n s l,b)::ZV l (if k=5 then IntKind.i64.wrap (b+1) else b)
def ZV:List Tm->Int->List (Tm×Int)
 | [],_=>[]
 | t::r,b=>Y9 t b++ZV r b
end
theorem Vp(l m:List Tm)(b:Int):ZV (l++m) b=ZV l b++ZV m b:=by
 induction l with
 | nil=>rfl
 | cons a r ih=>simp only[kE,ZV,ih,ju]
theorem ES(f:nG)(Pp:Nat->Store->Prop):∀ (t:Tm) (b:Int) (i0:Nat) (S:Store),Pp i0 S->(∀ (j:Nat) (p:Tm×Int) (S:Store),(Y9 t b)[j]?=some p->Pp (i0+j) S->ZH nC (.val f) [.agg p.1.emb,vi p.2] S (fun r σ'=>r=.ret (.tup [])/\Pp (i0+j+1) σ')) ->
 Zh nC 229 [.agg t.emb,vi b,.val f] S (fun r σ'=>r=.ret (.tup [])/\Pp (i0+(Y9 t b).length) σ'):=by
 intro t
 induction t using ed with|h k n s l ih=>?_
 intro b i0 S hP hf
 refine Zh.ok xy (fun hok=>?_)
 refine vw fun hlen=>?_
 rw[cF] at hlen
 clear hok
 have hf0:=hf 0 _ S (by rw[Y9];rfl) hP
 simp only[cO,iw] at hf0 ⊢
 refine Zb [] [] Tryz.func229 rfl xy ?_;rw[Tryz.ntmps229,Tryz.results229]
 refine uw ?_
 refine hf0.mono ?_
 rintro r S1 ⟨h1,hP1⟩
 rw[h1]
 obtain⟨b',hb'⟩:∃ b':Int,b'=if k=5 then IntKind.i64.wrap (b+1) else b:=⟨_,rfl⟩
 have hfl:∀ (j:Nat) (p:Tm×Int) (S:Store),(ZV l b')[j]?=some p->Pp (i0+1+j) S->ZH nC (.val f) [.agg p.1.emb,vi p.2] S (fun r σ'=>r=.ret (.tup [])/\Pp (i0+1+j+1) σ'):=by
  intro j p S hj hS
  have:=hf (j+1) p S (by rw[Y9,<- hb'];simpa using hj) (by rw[show i0+(j+1)=i0+1+j by omega];exact hS)
  rw[show i0+1+j=i0+(j+1) by omega]
  exact this
 have hn:(Y9 (.mk k n s l) b).length=1+(ZV l b').length:=by rw[Y9,<- hb',ij];omega
 rw[hn]
 refine uw ?_
 refine⟨fun hk=>?_,fun hk=>?_⟩
 ·rw[gZ hk] at hb'
  rw[<- hb']
  exact oz
 ·rw[ig hk] at hb'
  subst hb'
  exact oz
theorem A4(f:nG)(St:Nat->Store)(t:Tm)(b:Int)(i0:Nat)(hf:∀ (j:Nat) (p:Tm×Int),(Y9 t b)[j]?=some p->ZH nC (.val f) [.agg p.1.emb,vi p.2] (St (i0+j)) (fun r σ'=>r=.ret (.tup [])/\σ'=St (i0+j+1))) :
 Zh nC 229 [.agg t.emb,vi b,.val f] (St i0) (fun r σ'=>r=.ret (.tup [])/\σ'=St (i0+(Y9 t b).length)) :=
 ES f (fun i S=>S=St i) t b i0 (St i0) rfl (fun j p S hj hS=>by rw[hS];exact hf j p hj)
def SA(t:Tm):Bool:=decide (Vy t=0)&&(Y9 t 0).all (fun p=>match p.1 with|.mk k n _ _=>!decide (k=2) || decide (n<p.2))
def Te(l:List (Tm×Int)):Bool:=l.all (fun p=>match p.1 with|.mk k n _ _=>!decide (k=2) || decide (n<p.2))
theorem E5(t:Tm):Pur nC 175 [.agg t.emb] (vb (SA t)):=by
 intro σ
 have hr:=My t
 have hn:=fun b St=>A4 (.func (.func 230) #[] #[.pointer (some ⟨b,0,none⟩)]) St t 0 0
 have hd:SA t=(decide (Vy t=0)&&Te (Y9 t 0)):=rfl
 rw[hd]
 generalize Vy t=e at hr ⊢
 generalize Y9 t 0=L at hn ⊢
 obtain⟨k,n,s,l⟩:=t
 simp only[cO] at hr hn ⊢
 refine Zb [] [] Tryz.func175 rfl xy ?_;rw[Tryz.ntmps175,Tryz.results175]
 refine uw ?_
 refine hr.use ?_
 refine uw ?_
 refine⟨fun q=>Zs (by simp[q]),fun q=>?_⟩
 intro b hb
 refine uw ?_
 refine(hn b (fun i=>(b,.cells [vb (Te (L.take i))])::σ) (fun j p hj=>?_)).mono ?_
 ·rw[Z4,jG]
  obtain⟨⟨k',n',s',l'⟩,c⟩:=p
  simp only[cO]
  have hnx:Te (L.take (j+1))=(Te (L.take j)&&(!decide (k'=2) || decide (n'<c))):=by rw[jh,hj];simp[Te]
  rw[hnx]
  cases hc:Te (L.take j) with
  | true =>
    refine Zb [] [] Tryz.func230 rfl xy ?_;rw[Tryz.ntmps230,Tryz.results230]
    refine uw ?_
    refine⟨fun h1=>?_,fun h1=>?_⟩
    ·try simp only[go_sem,seval,h1]
     refine .mk (.refl _) (.refl _) ⟨rfl,?_⟩
     by_cases k2:k'=2<;>simp_all
    ·refine uw ?_
     refine .mk (.refl _) (.refl _) ⟨rfl,?_⟩
     by_cases k2:k'=2<;>simp_all
  | false =>
    refine Zb [] [] Tryz.func230 rfl xy ?_;rw[Tryz.ntmps230,Tryz.results230]
    refine uw ?_
    exact qT
 ·rintro r σ' ⟨h1,h2⟩
  rw[h1,h2]
  refine uw ?_
  rw[iW xh]
  exact .mk (.refl _) (.cons _ _) ⟨by simp[q],rfl⟩
end Go.Vx
end
section
namespace Go.Vx
open Go.Proofs
mutual
def cnt:Ro->Nat
 | .mk l=>Jb l+1
def Jb:List Ro->Nat
 | []=>0
 | t::r=>cnt t+Jb r
end
mutual
theorem GR:∀ (t:Ro) (lv c d c' d':Int),wlk t lv (c,d)=(true,(c',d'))->d<=d'
 | .mk l,lv,c,d,c',d',h=>by
   simp only[wlk] at h
   split at h
   ·split at h
    ·have:=SI l (lv+1) (c+1) (max d lv) c' d' h;omega
    ·simp at h;omega
   ·simp at h
theorem SI:∀ (l:List Ro) (lv c d c' d':Int),Xs l lv (c,d)=(true,(c',d'))->d<=d'
 | [],lv,c,d,c',d',h=>by simp only[Xs] at h;injection h with _ h;injection h with h1 h2;omega
 | t::r,lv,c,d,c',d',h=>by
   simp only[Xs] at h
   cases hw:wlk t lv (c,d) with
   | mk b q =>
     obtain⟨c1,d1⟩:=q
     rw[hw] at h
     cases b with
     | true=>have h1:=GR t lv c d c1 d1 hw;have h2:=SI r lv c1 d1 c' d' h;omega
     | false=>simp at h
end
mutual
theorem JP:∀ (t:Ro) (lv c d c' d':Int),wlk t lv (c,d)=(true,(c',d'))->d'<=100->c'=c+cnt t
 | .mk l,lv,c,d,c',d',h,hd=>by
   simp only[wlk] at h
   split at h
   ·split at h
    ·have:=Mc l (lv+1) (c+1) (max d lv) c' d' h hd;simp only[cnt];omega
    ·simp at h;omega
   ·simp at h
theorem Mc:∀ (l:List Ro) (lv c d c' d':Int),Xs l lv (c,d)=(true,(c',d'))->d'<=100->c'=c+Jb l
 | [],lv,c,d,c',d',h,hd=>by simp only[Xs] at h;injection h with _ h;injection h with h1 h2;simp[Jb];omega
 | t::r,lv,c,d,c',d',h,hd=>by
   simp only[Xs] at h
   cases hw:wlk t lv (c,d) with
   | mk b q =>
     obtain⟨c1,d1⟩:=q
     rw[hw] at h
     cases b with
     | true=>have h0:=SI r lv c1 d1 c' d' h;have h1:=JP t lv c d c1 d1 hw xh;have h2:=Mc r lv c1 d1 c' d' h hd;simp only[Jb];omega
     | false=>simp at h
end
theorem IK:∀ t:Ro,(wlk t 1 (0,0)).1=false->4000<(wlk t 1 (0,0)).2.1:=by
 have key:∀ (n:Nat),True:=fun _=>trivial
 intro t
 exact(go t 1 (0,0))
 where
 go:∀ (t:Ro) (lv:Int) (st:Int×Int),(wlk t lv st).1=false->4000<(wlk t lv st).2.1
 | .mk l,lv,(c,d),h=>by
   simp only[wlk] at h ⊢
   split at h
   ·rename_i hc
    rw[gZ hc]
    split at h
    ·rename_i hl;rw[gZ hl];exact gos l (lv+1) _ h
    ·simp at h
   ·rename_i hc;rw[ig hc];simp only;omega
 gos:∀ (l:List Ro) (lv:Int) (st:Int×Int),(Xs l lv st).1=false->4000<(Xs l lv st).2.1
 | [],lv,st,h=>by simp[Xs] at h
 | t::r,lv,st,h=>by
   simp only[Xs] at h ⊢
   cases hw:wlk t lv st with
   | mk b q =>
     rw[hw] at h
     cases b with
     | true=>exact gos r lv q h
     | false=>have:=go t lv st (by rw[hw]);rw[hw] at this;exact this
theorem Kb(t:Ro)(h:X4 t=0):cnt t<=4000:=by
 unfold X4 at h
 split at h
 ·simp at h
 ·split at h
  ·simp at h
  ·rename_i h1 h2
   unfold Sk at h1 h2
   cases hw:wlk t 1 (0,0) with
   | mk b q =>
     obtain⟨c,d⟩:=q
     cases b with
     | true =>
       rw[hw] at h1 h2
       simp only[iE] at h1 h2
       have:=JP t 1 0 0 c d hw xh
       omega
     | false =>
       have:=IK t (by rw[hw])
       rw[hw] at h1 this
       simp at h1 this
       omega
mutual
theorem Qv:∀ (t:Tm) (b:Int),(Y9 t b).length=cnt t.shape
 | .mk k n s l,b=>by rw[Y9,ij,RG l,Tm.shape,cnt]
theorem RG:∀ (l:List Tm) (b:Int),(ZV l b).length=Jb (cK l)
 | [],b=>rfl
 | t::r,b=>by rw[ZV,ii,Qv t b,RG r b,cK,Jb]
end
theorem Fs(t:Tm)(h:Vy t=0)(b:Int):(Y9 t b).length<=4000:=by
 rw[Qv]
 refine Kb _ ?_
 unfold Vy at h
 split at h
 ·rename_i h1;exact absurd h h1
 ·rename_i h1;simpa using h1
def Vn(acc:List Int)(n:Int):List Int:=if n∈acc then acc else acc++[n]
def Yj(acc:List Int):List (Int×AV×Nat):=acc.zipIdx.map fun p=>(p.1,vb true,p.2)
theorem U7(acc:List Int):(Yj acc).map (·.1)=acc:=by
 unfold Yj
 rw[ki]
 apply ml
 intro i
 simp[mM,Function.comp_def]
theorem Rc(acc:List Int)(n:Int):VL (Yj acc) n=if n∈acc then some (vb true) else none:=by
 unfold VL
 by_cases h:n∈acc
 ·rw[gZ h]
  have:∃ e,(Yj acc).find? (fun e=>decide (e.1=n))=some e:=by
   rw[<- U7 acc,kK] at h
   obtain⟨e,he,hn⟩:=h
   cases hf:(Yj acc).find? (fun e=>decide (e.1=n)) with
   | some e=>exact⟨e,rfl⟩
   | none=>rw[mN] at hf;exact absurd hn (by simpa using hf e he)
  obtain⟨e,he⟩:=this
  rw[he]
  have hm:=mP he
  unfold Yj at hm
  obtain⟨p,_,rfl⟩:=List.mem_map.1 hm
  rfl
 ·rw[ig h]
  have:(Yj acc).find? (fun e=>decide (e.1=n))=none:=by
   rw[mN]
   intro e he
   simp only[kD]
   intro hn
   exact h (by rw[<- U7 acc];exact List.mem_map.2 ⟨e,he,hn⟩)
  rw[this];rfl
theorem Sl(acc:List Int)(n:Int)(h:n ∉ acc):T3 (Yj acc) n (vb true) acc.length=Yj (acc++[n])/\T5 (Yj acc) n acc.length=(acc++[n]).length:=by
 unfold T3 T5
 rw[U7,ig h,ig h]
 refine⟨?_,by simp⟩
 simp[Yj,List.zipIdx_append]
def Sg(kind:Int)(L:List (Tm×Int)):List Int:=L.foldl (fun acc p=>match p.1 with|.mk k n _ _=>if k=kind then Vn acc n else acc) []
theorem DV(acc:List Int)(n:Int):(Vn acc n).length<=acc.length+1:=by unfold Vn;split<;>simp
theorem Hj(kind:Int)(L:List (Tm×Int)):(Sg kind L).length<=L.length:=by
 have:∀ (L:List (Tm×Int)) (acc:List Int),(L.foldl (fun acc p=>match p.1 with|.mk k n _ _=>if k=kind then Vn acc n else acc) acc).length<=acc.length+L.length:=by
  intro L
  induction L with
  | nil=>intro acc;simp
  | cons p r ih =>
    intro acc
    obtain⟨⟨k,n,s,l⟩,b⟩:=p
    simp only[lQ,ij]
    have:=ih (if k=kind then Vn acc n else acc)
    have h2:(if k=kind then Vn acc n else acc).length<=acc.length+1:=by split;exact DV acc n;omega
    omega
 have:=this L []
 simpa[Sg] using this
theorem Ky(kind:Int)(L:List (Tm×Int))(i:Nat)(k n:Int)(s:Str)(l:List Tm)(b:Int)(h:L[i]?=some (.mk k n s l,b)):Sg kind (L.take (i+1))=if k=kind then Vn (Sg kind (L.take i)) n else Sg kind (L.take i):=by
 rw[jh,h]
 simp[Sg,List.foldl_append]
structure NS (σ:Store) (kind:Int) (bk bm rm bo:Nat) (acc:List Int) (S:Store):Prop where
 gk:S.get bk=some (.cells [vi kind])
 gm:S.get bm=some (.cells [.val (.map (some rm))])
 gr:S.get rm=some (.map (ZS keI (Yj acc)) acc.length)
 go:∃ v,S.get bo=some (.cells [v])/\LV σ S v 1 (Zu acc)
 has:Has σ S
theorem Kz(σ:Store)(kind:Int)(bk bm rm bo:Nat)(fr:Zm σ rm)(fo:Zm σ bo)(nmo:bm≠bo)(nko:bk≠bo)(acc:List Int)(hacc:acc.length<=4000)(k n b:Int)(s:Str)(l:List Tm)(S:Store)(h:NS σ kind bk bm rm bo acc S) :
 Zh nC 267 [.agg (Tm.mk k n s l).emb,vi b,.val (.pointer (some ⟨bk,0,none⟩)),.val (.pointer (some ⟨bm,0,none⟩)),.val (.pointer (some ⟨bo,0,none⟩))] S
  (fun r S'=>r=.ret (.tup [])/\NS σ kind bk bm rm bo (if k=kind then Vn acc n else acc) S'):=by
 obtain⟨v,go,hv⟩:=h.go
 have gk:=h.gk
 have gm:=h.gm
 have gr:=h.gr
 simp only[cO]
 refine Zb [] [] Tryz.func267 rfl xy ?_;rw[Tryz.ntmps267,Tryz.results267]
 try simp only[go_sem,seval,gk]
 refine⟨fun hk=>?_,fun hk=>?_⟩
 ·rw[gZ hk]
  try simp only[go_sem,seval,gm]
  refine Ws (z:=.bool false) fa3 xy xy gr ?_
  rw[Oo,Rc]
  by_cases hin:n∈acc
  ·have ha:Vn acc n=acc:=by unfold Vn;rw[gZ hin]
   rw[gZ hin,ha]
   try simp only[go_sem,seval,ko]
   exact .mk (.refl _) (.refl _) ⟨rfl,h⟩
  ·have ha:Vn acc n=acc++[n]:=by unfold Vn;rw[ig hin]
   rw[ig hin,ha]
   try simp only[go_sem,seval,kr,gm]
   refine Yv fa3 xy gr ?_
   obtain⟨u1,u2⟩:=Sl acc n hin
   rw[u1,u2]
   have nor:bo≠rm:=fun e=>by rw[e,gr] at go;cases go
   have nmr:bm≠rm:=fun e=>by rw[e,gr] at gm;cases gm
   have nkr:bk≠rm:=fun e=>by rw[e,gr] at gk;cases gk
   have go1:(S.set rm (.map (ZS keI (Yj (acc++[n]))) (acc++[n]).length)).get bo=some (.cells [v]):=by rw[Za nor];exact go
   try simp only[go_sem,seval,go1]
   have hv1:LV σ (S.set rm (.map (ZS keI (Yj (acc++[n]))) (acc++[n]).length)) v 1 (Zu acc):=hv.set gr (fun e c h=>by cases h) _
   refine⟨rfl,hv1.append rfl xj (by simp[Zu];omega) rfl xf (h.has.set fr _) (fun v' S' hv' hkp hS'=>?_)⟩
   have e1:Zu acc++[[AV.val (.int .i64 n)]]=Zu (acc++[n]):=by simp[Zu]
   rw[e1] at hv'
   have gr':=hkp rm _ (Zd gr) xf
   have gm':=hkp bm _ (by rw[Za nmr];exact gm) xf
   have gk':=hkp bk _ (by rw[Za nkr];exact gk) xf
   have go':=hkp bo _ go1 xf
   try simp only[go_sem,seval,hv'.cells,hv'.one,go']
   refine .mk (.refl _) (.refl _) ⟨rfl,⟨by rw[Za nko];exact gk',by rw[Za nmo];exact gm',by rw[Za (iC nor)];exact gr',⟨v',Zd go',hv'.set go' xf _⟩,hS'.set fo _⟩⟩
 ·rw[ig hk]
  exact .mk (.refl _) (.refl _) ⟨rfl,h⟩
def TD(t:Tm)(kind:Int):List Int:=if Vy t≠0 then[] else Sg kind (Y9 t 0)
theorem Ol(t:Tm)(kind:Int):Pur nC 231 [.agg t.emb,vi kind] (.list .none 1 (Zu (TD t kind))):=by
 intro σ
 refine Zh.nodup xy (fun hnd=>?_)
 have hr:=My t
 have hlen:=fun h=>Fs t h 0
 have hn:=fun f Pp=>ES f Pp t 0 0
 have hd:TD t kind=if Vy t≠0 then[] else Sg kind (Y9 t 0):=rfl
 rw[hd]
 generalize Vy t=e at hr hlen ⊢
 generalize Y9 t 0=L at hn hlen ⊢
 obtain⟨k,n,s,l⟩:=t
 simp only[cO] at hr hn ⊢
 refine Zb [2,3] [] Tryz.func231 rfl xy ?_;rw[Tryz.ntmps231,Tryz.results231]
 refine uw ?_
 intro b2 hb2 b3 hb3
 try simp only[go_sem,seval,hb3]
 refine hr.use ?_
 refine uw ?_
 refine⟨fun q=>?_,fun q=>?_⟩
 ·rw[gZ q]
  exact .mk (.nilA _ _ _) (((Sub.refl σ).skip _).skip _) ⟨rfl,rfl⟩
 ·rw[ig (not_not_intro q)]
  intro b5 hb5
  refine uw ?_
  intro rm hrm b6 hb6
  have g2:Store.get ((b3,AObj.cells [vi kind])::(b2,.cells [vi k,vi n,vs s,.list .none 4 (cJ l)])::σ) b2=some (.cells [vi k,vi n,vs s,.list .none 4 (cJ l)]):=by rw[Zg hb3 xB,Ze]
  try simp only[go_sem,seval,hb3,hb5,hrm,hb6]
  have hlen:=hlen q
  obtain⟨S0,hS0⟩:∃ S0:Store,S0=(b6,AObj.cells [.val (.map (some rm))])::(rm,.map [] 0)::(b5,.cells [.list .full 0 []])::(b3,.cells [vi kind])::(b2,.cells [vi k,vi n,vs s,.list .none 4 (cJ l)])::σ:=⟨_,rfl⟩
  have hcl:((b6,AObj.cells [AV.val (Value.map (some rm))])::(rm,.map [] 0)::(b5,.cells [.list .full 0 []])::(b3,.cells [.val (.int .i64 kind)])::(b2,.cells [.val (.int .i64 k),.val (.int .i64 n),.val (.string s),.list .none 4 (cJ l)])::σ:Store)=S0:=hS0.symm
  rw[hcl]
  have n35:b3≠b5:=hb5.1
  have n3r:b3≠rm:=hrm.2.1
  have n5r:b5≠rm:=hrm.1
  have nr6:rm≠b6:=hb6.1
  have n56:b5≠b6:=hb6.2.1
  have n36:b3≠b6:=hb6.2.2.1
  have f5:Zm σ b5:=hb5.2.2
  have fr:Zm σ rm:=hrm.2.2.2
  have h0:NS σ kind b3 b6 rm b5 [] S0:=by
   rw[hS0]
   refine⟨?_,Ze _ _ _,?_,⟨.list .full 0 [],?_,LV.nil _ _ _⟩,fun p hp=>by simp[hp]⟩
   ·rw[Zc (iC n36),Zc (iC n3r),Zc (iC n35),Ze]
   ·rw[Zc (iC nr6),Ze];rfl
   ·rw[Zc (iC n56),Zc (iC n5r),Ze]
  have G2:S0.get b2=some (.cells [vi k,vi n,vs s,.list .none 4 (cJ l)]):=by
   rw[hS0,Zc (iC hb6.2.2.2.1),Zc (iC hrm.2.2.1),Zc (iC hb5.2.1),g2]
  try simp only[go_sem,seval,G2]
  refine(hn (.func (.func 267) #[] #[.pointer (some ⟨b3,0,none⟩),.pointer (some ⟨b6,0,none⟩),.pointer (some ⟨b5,0,none⟩)]) (fun i S=>NS σ kind b3 b6 rm b5 (Sg kind (L.take i)) S) S0 h0 (fun j p S hj hS=>?_)).mono ?_
  ·rw[jG] at hS ⊢
   obtain⟨⟨k',n',s',l'⟩,c⟩:=p
   rw[Ky kind L j k' n' s' l' c hj,Z4]
   have:=Hj kind (L.take j)
   rw[ip] at this
   exact Kz σ kind b3 b6 rm b5 fr f5 (iC n56) n35 _ xh k' n' c s' l' S hS
  ·rintro r S' ⟨h1,hS'⟩
   rw[h1]
   rw[jG,iW (kO _)] at hS'
   obtain⟨v,go,hv⟩:=hS'.go
   try simp only[go_sem,seval,go]
   exact .mk hv.wk (hS'.has.sub hnd) ⟨rfl,rfl⟩
theorem Ad(t:Tm):Pur nC 177 [.agg t.emb] (.list .none 1 (Zu (TD t 4))):=by
 intro σ
 have h:=Ol t 4
 obtain⟨k,n,s,l⟩:=t
 simp only[cO] at h ⊢
 refine Zb [] [] Tryz.func177 rfl xy ?_;rw[Tryz.ntmps177,Tryz.results177]
 exact uo
theorem Au(t:Tm):Pur nC 176 [.agg t.emb] (.list .none 1 (Zu (TD t 3))):=by
 intro σ
 have h:=Ol t 3
 obtain⟨k,n,s,l⟩:=t
 simp only[cO] at h ⊢
 refine Zb [] [] Tryz.func176 rfl xy ?_;rw[Tryz.ntmps176,Tryz.results176]
 exact uo
end Go.Vx
end
