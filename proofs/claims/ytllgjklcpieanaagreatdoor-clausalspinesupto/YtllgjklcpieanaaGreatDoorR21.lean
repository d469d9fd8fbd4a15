/- A part of the proof of clausalSpinesProved. -/
import Derived.Test.YtllgjklcpieanaaGreatDoorR17
import Derived.Test.YtllgjklcpieanaaGreatDoorR14
import Derived.Test.YtllgjklcpieanaaGreatDoorR11
import Derived.Test.YtllgjklcpieanaaGreatDoorR20
set_option linter.unusedVariables false
set_option linter.unusedSimpArgs false
set_option maxRecDepth 100000
section
namespace Go.Vx
open Go.Proofs Go.RowKit
def Nj:nG:=.iface 231 (.agg #[])
def B7(b:Nat)(n x:Int)(S:Store):ZE->Store->Prop:=fun r S'=>(n+x<=4000/\r=.ret (.tup [])/\S'=S.set b (.cells [vi (n+x)]))\/(4000<n+x/\r=.pan Nj/\S'=S.set b (.cells [vi 4001]))
theorem A8(b:Nat):∀ (t:Tm) (n:Int) (S:Store),0<=n->n<=4000->S.get b=some (.cells [vi n])->Zh nC 214 [.val (.pointer (some ⟨b,0,none⟩)),.agg t.emb] S (B7 b n (prt t.shape (4000-n)) S):=by
 intro t
 induction t using ed with|h k m s l ih=>?_
 intro n S h0 hn g
 refine Zh.ok xy (fun hok=>?_)
 have hlen:=(((hok (.agg (Tm.mk k m s l).emb) xf).agg (c:=.list .none 4 (cJ l)) xw).len)
 rw[cF] at hlen
 clear hok
 have hsh:prt (Tm.mk k m s l).shape (4000-n)=Yc (cK l) 1 (4000-n):=by simp only[Tm.shape,prt]
 rw[hsh]
 simp only[cO]
 have w1:IntKind.i64.wrap (n+1)=n+1:=Zk xh xh
 refine Zb [] [] Tryz.func214 rfl xy ?_;rw[Tryz.ntmps214,Tryz.results214]
 try simp only[go_sem,seval,g,w1,jX]
 by_cases hn4:n+1 > 4000
 ·exact rl
 ·have x1:=iU hn4
  try simp only[go_sem,seval,x1,iV]
  refine Zp (mu:=[]) (dr:=[]) [5,23,24,25,26,27,28,29,30] (fun x:Nat×Int=>[(23,vi x.1)]) (fun x=>S.set b (.cells [vi (n+x.2)]))
   (fun x=>x.1<=l.length/\1<=x.2/\x.2<=4000-n/\Yc (cK l) 1 (4000-n)=Yc (cK (l.drop x.1)) x.2 (4000-n)) (fun x=>l.length-x.1) (0,1) xy ⟨by simp,by simp,by dsimp only;omega,by simp⟩ ⟨.refl _,trivial⟩ (.refl _) ?_
  rintro⟨i,c⟩ ⟨hi,hc1,hc2,hx⟩
  dsimp only at hi hc1 hc2 hx
  by_cases hi2:(i:Int)<(l.length:Int)
  ·have x2:=iS hi2
   refine uB fun x0=>?_
   refine uG fun a ha=>?_
   have ga:(cJ l)[i]?=some a.emb:=by rw[cW,jp,ha];rfl
   refine uz fun w3=>?_
   have hd:Yc (cK (l.drop i)) c (4000-n)=Yc (cK (l.drop (i+1))) (c+prt a.shape (4000-n-c)) (4000-n):=by rw[drop_at ha];simp only[cK,Yc,gZ hc2]
   have hbd:=Wg a.shape (4000-n-c) xh
   have iha:=fun S' (g':Store.get S' b=some (.cells [vi (n+c)]))=>ih a (iG ha) (n+c) S' xh xh g'
   exact oH
  ·have x2:=iU hi2
   rw[jD xh] at hx
   have hf:Yc (cK l) 1 (4000-n)=c:=by rw[hx];simp only[cK,Yc]
   rw[hf]
   try simp only[go_sem,seval,cF,x2,iV]
   exact .mk (.refl _) (.refl _) (.inl ⟨by omega,rfl,rfl⟩)
theorem A9(b:Nat):∀ (t:Fm) (n:Int) (S:Store),0<=n->n<=4000->S.get b=some (.cells [vi n])->Zh nC 145 [.val (.pointer (some ⟨b,0,none⟩)),.agg t.emb] S (B7 b n (prt t.shape (4000-n)) S):=by
 intro t
 induction t using eg with|h k s l ty fs ih=>?_
 obtain⟨ts,tl⟩:=ty
 intro n S h0 hn g
 refine Zh.ok xy (fun hok=>?_)
 have hlen:=(((hok (.agg (Fm.mk k s l (.mk ts tl) fs).emb) xf).agg (c:=.list .none 4 (cJ l)) xt).len)
 have hlen2:=(((hok (.agg (Fm.mk k s l (.mk ts tl) fs).emb) xf).agg (c:=.list .none 6 (cN fs)) xt).len)
 rw[cF] at hlen
 rw[cU] at hlen2
 clear hok
 have hsh:prt (Fm.mk k s l (.mk ts tl) fs).shape (4000-n)=Yc (cK l++cR fs) 1 (4000-n):=by simp only[Fm.shape,prt]
 rw[hsh]
 simp only[cM]
 have w1:IntKind.i64.wrap (n+1)=n+1:=Zk xh xh
 refine Zb [] [] Tryz.func145 rfl xy ?_;rw[Tryz.ntmps145,Tryz.results145]
 try simp only[go_sem,seval,g,w1,jX]
 by_cases hn4:n+1 > 4000
 ·exact rl
 ·have x1:=iU hn4
  try simp only[go_sem,seval,x1,iV]
  refine Zp (mu:=[]) (dr:=[]) [5,25,26,27,28,29,30,31,32] (fun x:Nat×Int=>[(25,vi x.1)]) (fun x=>S.set b (.cells [vi (n+x.2)]))
   (fun x=>x.1<=l.length/\1<=x.2/\x.2<=4000-n/\Yc (cK l++cR fs) 1 (4000-n)=Yc (cK (l.drop x.1)++cR fs) x.2 (4000-n)) (fun x=>l.length-x.1) (0,1) xy ⟨by simp,by simp,by dsimp only;omega,by simp⟩ ⟨.refl _,trivial⟩ (.refl _) ?_
  rintro⟨i,c⟩ ⟨hi,hc1,hc2,hx⟩
  dsimp only at hi hc1 hc2 hx
  by_cases hi2:(i:Int)<(l.length:Int)
  ·have x2:=iS hi2
   refine uB fun x0=>?_
   refine uG fun a ha=>?_
   have ga:(cJ l)[i]?=some a.emb:=by rw[cW,jp,ha];rfl
   refine uz fun w3=>?_
   have hd:Yc (cK (l.drop i)++cR fs) c (4000-n)=Yc (cK (l.drop (i+1))++cR fs) (c+prt a.shape (4000-n-c)) (4000-n):=by rw[drop_at ha];simp only[cK,kE,Yc,gZ hc2]
   have hbd:=Wg a.shape (4000-n-c) xh
   have iha:=fun S' (g':Store.get S' b=some (.cells [vi (n+c)]))=>A8 b a (n+c) S' xh xh g'
   exact oH
  ·have x2:=iU hi2
   rw[jD xh] at hx
   have hf:Yc (cK l++cR fs) 1 (4000-n)=Yc (cR fs) c (4000-n):=by rw[hx];rfl
   rw[hf]
   try simp only[go_sem,seval,cF,x2,iV]
   clear hf hx x2 hi2 hi
   refine Zp (mu:=[]) (dr:=[]) [7,36,37,38,39,40,41,42,43] (fun x:Nat×Int=>[(36,vi x.1)]) (fun x=>S.set b (.cells [vi (n+x.2)]))
    (fun x=>x.1<=fs.length/\1<=x.2/\x.2<=4000-n/\Yc (cR fs) c (4000-n)=Yc (cR (fs.drop x.1)) x.2 (4000-n)) (fun x=>fs.length-x.1) (0,c) xy ⟨by simp,by dsimp only;omega,by dsimp only;omega,by simp⟩ ⟨.refl _,trivial⟩ (.refl _) ?_
   rintro⟨j,d⟩ ⟨hi,hd1,hd2,hx⟩
   dsimp only at hi hd1 hd2 hx
   by_cases hi2:(j:Int)<(fs.length:Int)
   ·have x2:=iS hi2
    refine vy fun x0=>?_
    obtain⟨a,ha⟩:∃ a,fs[j]?=some a:=⟨fs[j]' xh,iO xh⟩
    have ga:(cN fs)[j]?=some a.emb:=by rw[dz,jp,ha];rfl
    refine vS fun w3=>?_
    have hd:Yc (cR (fs.drop j)) d (4000-n)=Yc (cR (fs.drop (j+1))) (d+prt a.shape (4000-n-d)) (4000-n):=by rw[drop_at ha];simp only[cR,Yc,gZ hd2]
    have hbd:=Wg a.shape (4000-n-d) xh
    have iha:=fun S' (g':Store.get S' b=some (.cells [vi (n+d)]))=>ih a (iG ha) (n+d) S' xh xh g'
    rw[show 4000-(n+d)=4000-n-d from by omega] at iha
    rw[hd] at hx
    generalize prt a.shape (4000-n-d)=p at iha hx hbd
    obtain⟨ka,sa,la,⟨xa,xl⟩,fa⟩:=a
    simp only[cM] at ga iha
    try simp only[go_sem,seval,cU,x0,x2,ga,iT,iF,jq,jr,jt]
    intro b5 hb5
    rw[WZ] at hb5
    have n5:b5≠b:=ZI hb5 g
    refine uw ?_
    refine(iha _ (by rw[Zc n5];exact Zd g)).mono ?_
    rintro r S' (⟨hle,rfl,rfl⟩|⟨hgt,rfl,rfl⟩)
    ·rw[Zo n5,Zx]
     refine vF ?_
     refine .mk (j+1,d+p) ⟨by dsimp only;omega,by dsimp only;omega,by dsimp only;omega,hx⟩ xX ⟨.refl _,trivial⟩ yS ?_
     dsimp only
     rw[show n+d+p=n+(d+p) from by omega]
     exact .cons _ _
    ·rw[Zo n5,Zx]
     refine uw ?_
     rw[hx,Y8 _ xh]
     exact .mk (.cons _ _) (.inr ⟨by omega,rfl,rfl⟩)
   ·have x2:=iU hi2
    rw[jD xh] at hx
    have hf:Yc (cR fs) c (4000-n)=d:=by rw[hx];simp only[cR,Yc]
    rw[hf]
    try simp only[go_sem,seval,cU,x2,iV]
    exact .mk (.refl _) (.refl _) (.inl ⟨by omega,rfl,rfl⟩)
theorem Kd(b:Nat)(n:Int)(σ:Store)(hb:σ.get b=some (.cells [vi n]))(K:Store->Prop)(hK:K σ):Vl nC 144 [.pointer (some ⟨b,0,none⟩)] .returning .returning σ K:=by
 refine Tj [] [] .none Tryz.func144 rfl 4 rfl xy ?_
 rw[Tryz.ntmps144]
 exact rE
theorem Kc(b:Nat)(n:Int)(σ:Store)(hb:σ.get b=some (.cells [vi n]))(K:Store->Prop)(hK:K (σ.set b (.cells [vi 4001]))) :
 Vl nC 144 [.pointer (some ⟨b,0,none⟩)] (.panicking [{ v:=Nj,recovered:=false }]) (.panicking [{ v:=Nj,recovered:=true }]) σ K:=by
 refine Tj [] [] (.some _) Tryz.func144 rfl 4 rfl xy ?_
 rw[Tryz.ntmps144]
 try simp only[go_sem,seval,Nj]
 intro b1 hb1
 have hne:=ZI hb1 hb
 try simp only[go_sem,seval,hne,iC hne,hb]
 exact⟨_,.cons _ _,hK⟩
theorem Ag(f:Fm):Pur nC 88 [.agg f.emb] (vi (prt f.shape 4000)):=by
 intro σ
 have hc:=fun b S (g:Store.get S b=some (.cells [vi 0]))=>A9 b f 0 S xh xh g
 have hbd:=Wg f.shape 4000 xh
 rw[show(4000:Int)-0=4000 from rfl] at hc
 generalize prt f.shape 4000=x at hc hbd ⊢
 obtain⟨k,s,a,⟨ts,tl⟩,l⟩:=f
 simp only[cM] at hc ⊢
 refine XF Tryz.func88 rfl xy ?_
 rw[Tryz.ntmps88,Tryz.results88]
 refine uA ?_
 refine uw ?_
 intro b2 hb2
 simp only[ZW]
 refine .seq (.of (Zn (mu:=[5]) (dr:=[]) xy _ xy _ _ _ ?_))
 refine uw ?_
 intro b5 hb5
 have n52:=iC hb5.1
 have n25:=hb5.1
 refine uw ?_
 simp only[ZW]
 refine .seq (.region (mu:=[]) (pre:=[_]) 6 xy xy xj ?_)
 refine uw ?_
 refine wy ?_
 simp only[ZW]
 refine uC ?_
 refine uw ?_
 refine(hc b5 _ (Ze _ _ _)).mono ?_
 rintro r S' (⟨hle,rfl,rfl⟩|⟨hgt,rfl,rfl⟩)
 ·try simp only[go_sem,seval,n52,n25]
  simp only[WY]
  refine wy ?_
  refine Kd b2 (0+x) _ ?_ _ ?_
  ·try simp only[go_sem,seval,n52,n25]
  ·try simp only[go_sem,seval,n52,n25]
   exact .mk (.refl _) ((Sub.cons _ _).trans (.cons _ _)) ⟨by rw[Int.zero_add],rfl⟩
 ·try simp only[go_sem,seval,n52,n25]
  simp only[U9]
  refine⟨_,_,_,rfl,rfl,?_⟩
  refine Kc b2 0 _ ?_ _ ?_
  ·try simp only[go_sem,seval,n52,n25]
  ·try simp only[go_sem,seval,n52,n25]
   exact .mk (.refl _) ((Sub.cons _ _).trans (.cons _ _)) ⟨by rw[show x=4001 from by omega],rfl⟩
end Go.Vx
end
section
namespace Go.Vx
open Go.RowKit
def Xc(S S':Store):Prop:=∀ k x,S.get k=some x->(∀ r,x≠.raw (.loop r))->S'.get k=some x
section
variable {α:Type}
def kBd(own:List Nat)(J:List α->Store->Prop)(T:Code->List α->Store->Prop)(q:List α)(S:Store):Exit->Fr->Store->Prop
 | .normal,_,S'=>J q S'/\Y2 own S S'
 | .ret,_,S'=>T .ret q S'/\Y2 own S S'
 | .exit i,_,S'=>T (.exit i) q S'/\Y2 own S S'
 | _,_,_=>False
theorem KR(own:List Nat)(J:List α->Store->Prop)(T:Code->List α->Store->Prop)(q:List α)(S:Store)(fr:Fr)(S':Store):kBd own J T q S .normal fr S'=(J q S'/\Y2 own S S'):=rfl
theorem CX(own:List Nat)(J:List α->Store->Prop)(T:Code->List α->Store->Prop)(q:List α)(S:Store)(fr:Fr)(S':Store):kBd own J T q S .ret fr S'=(T .ret q S'/\Y2 own S S'):=rfl
theorem Eg(own:List Nat)(J:List α->Store->Prop)(T:Code->List α->Store->Prop)(q:List α)(S:Store)(i:Nat)(fr:Fr)(S':Store):kBd own J T q S (.exit i) fr S'=(T (.exit i) q S'/\Y2 own S S'):=rfl
def kAs(P:nE)(n:Nat)(body:Code)(own:List Nat)(J:List α->Store->Prop)(T:Code->List α->Store->Prop)(q:List α)(a:α)(S:Store):Exit->Fr->Store->Prop
 | .normal,fr,S1=>Y2 own S S1/\J q S1/\∀ S2,J q S2->Xc S1 S2->AWp P n [] body (kBd own J T (q++[a]) S2) fr S2
 | _,_,_=>False
theorem KT(P:nE)(n:Nat)(body:Code)(own:List Nat)(J:List α->Store->Prop)(T:Code->List α->Store->Prop)(q:List α)(a:α)(S:Store)(fr:Fr)(S1:Store) :
 kAs P n body own J T q a S .normal fr S1=(Y2 own S S1/\J q S1/\∀ S2,J q S2->Xc S1 S2->AWp P n [] body (kBd own J T (q++[a]) S2) fr S2):=rfl
attribute [go_sem ↓] KR CX Eg KT
theorem Xc.set{S:Store}{l:Nat}{r:Loop}(h:S.get l=some (.raw (.loop r)))(x:AObj):Xc S (S.set l x):=fun k y hk hy=>by
 rw[Za (fun e=>by rw[e,h] at hk;injection hk with hk;exact hy _ hk.symm)];exact hk
theorem DWp.rangeI{P:nE}{n:Nat}{ds:List nK}{g:nJ}{p:Tmp}{assign body:Code}{Q:Exit->List nK->Fr->Store->Prop}{fr:Fr}{σ:Store}{e:α->AV}{L:List α}(gf:nL)(cap:nN nG)(N:Store->Prop)(own:List Nat)
 (J:List α->Store->Prop) (T:Code->List α->Store->Prop) (hB:(dT n g&&decide (p<n))=true) (hg:fr.ev g=.val (.func (.func gf) #[] cap)) (hIt:BW P gf cap.toList N e L)
 (j0:J [] σ) (jc:∀ q S k x,J q S->Zm S k->J q ((k,x)::S)) (js:∀ q S l r x,J q S->Zm σ l->S.get l=some (.raw (.loop r))->J q (S.set l x))
 (ts:∀ c q S l r x,T c q S->Zm σ l->S.get l=some (.raw (.loop r))->T c q (S.set l x))
 (jN:∀ q S,J q S->N S) (jo:∀ q S,J q S->∀ k∈own,(S.get k).isSome=true)
 (hr:∀ tmps:nN nG,tmps.size=n->(∀ i v,i<n->fr i=.val v->tmps.getD i undef=v)->∀ q a S,J q S->AWp P n [] assign (kAs P n body own J T q a S) ((eV tmps).put p (e a)) S)
 (hn:∀ D S,Zm σ D->S.get D=some (.raw (.deferred (some [])))->J L S->Q .normal (WS D::ds) fr S)
 (hx:∀ D S c q s,Zm σ D->S.get D=some (.raw (.deferred (some [])))->L=q++s->T c q S->Oy Q (WS D::ds) fr S (some c)):DWp P n ds (.rangeFunc g #[p] assign body) Q fr σ:=by
 simp only[kJ,kD] at hB
 refine .range hB.1 gf cap hg ?_
 intro D l r hD hl hst hpe hpa has hbo hrs htm
 have fl:Zm ((D,AObj.raw (.deferred (some [])))::σ) l:=hl
 have nlD:l≠D:=hl.1.symm
 have noD:∀ q S,J q S->D ∉ own/\l ∉ own:=by
  exact qZ
 obtain⟨nD,nl⟩:=noD _ _ j0
 have j1:J [] ((l,.raw (.loop r))::(D,.raw (.deferred (some [])))::σ):=jc _ _ _ _ (jc _ _ _ _ j0 hD) hl
 have hy:LU P (.val (.func (.yield l) #[] #[])) e (l::own) (fun q S=>S.get l=some (.raw (.loop r))/\S.get D=some (.raw (.deferred (some [])))/\J q S)
  (fun q S=>∃ c,(c=.ret\/∃ i,c=.exit i)/\(∃ r2:Loop,S.get l=some (.raw (.loop r2))/\r2.state=.done/\r2.pending=some c)/\S.get D=some (.raw (.deferred (some [])))/\T c q S):=by
  refine⟨?_,?_,?_⟩
  ·exact sF
  ·exact rF
  ·rintro q a S ⟨h1,h2,h3⟩
   refine .inr ⟨l,_,rfl,rfl,?_⟩
   refine Tf h1 hpa (by rw[hrs];exact hB.2) hst hpe ?_
   rw[hrs,has]
   refine(hr r.tmps hrs htm q a S h3).mono ?_
   intro ex fr1 S1 q1
   cases ex with
   | normal =>
     obtain⟨k1,k2,k3⟩:=q1
     have g1:=k1 l _ h1 nl
     refine⟨g1,?_⟩
     have g2:=k1 D _ h2 nD
     have hJ2:=js _ _ _ _ (.raw (.loop { r with state:=.busy })) k2 fl.2 g1
     have gD2:(S1.set l (.raw (.loop { r with state:=.busy }))).get D=some (.raw (.deferred (some []))):=by rw[Za (iC nlD)];exact g2
     have gl2:(S1.set l (.raw (.loop { r with state:=.busy }))).get l=some (.raw (.loop { r with state:=.busy })):=Zd g1
     have kb:Y2 (l::own) S (S1.set l (.raw (.loop { r with state:=.busy }))):=fun k x hk hn=>by
      rw[Za (fun e=>hn xW)];exact k1 k x hk (fun h=>hn (kR _ h))
     have hkl:=Xc.set g1 (.raw (.loop { r with state:=.busy }))
     generalize S1.set l (.raw (.loop { r with state:=.busy }))=S2 at hJ2 gD2 gl2 kb hkl ⊢
     rw[hrs,hbo]
     refine(k3 S2 hJ2 hkl).mono ?_
     intro ex2 fr2 S3 q2
     have keepAll:∀ x,Y2 own S2 S3->Y2 (l::own) S (S3.set l x):=fun x h k y hk hn=>by
      have hkl:k≠l:=fun e=>hn xW
      rw[Za hkl]
      exact h k y (kb k y hk hn) (fun h=>hn (kR _ h))
     have getD3:∀ x,Y2 own S2 S3->(S3.set l x).get D=some (.raw (.deferred (some []))):=fun x h=>by rw[Za (iC nlD)];exact h D _ gD2 nD
     cases ex2 with
     | normal =>
       obtain⟨a1,a2⟩:=q2
       have g3:=a2 l _ gl2 nl
       exact⟨g3,keepAll _ a2,.inl ⟨rfl,Zd g3,getD3 _ a2,js _ _ _ _ _ a1 fl.2 g3⟩⟩
     | ret =>
       obtain⟨a1,a2⟩:=q2
       have g3:=a2 l _ gl2 nl
       exact ss
     | exit i =>
       obtain⟨a1,a2⟩:=q2
       have g3:=a2 l _ gl2 nl
       exact rU
     | goto t=>exact q2.elim
     | panic c=>exact q2.elim
     | outgrown=>exact q2.elim
   | exit i=>exact q1.elim
   | goto t=>exact q1.elim
   | ret=>exact q1.elim
   | panic c=>exact q1.elim
   | outgrown=>exact q1.elim
 have h0:=hIt _ (l::own) _ _ _ hy (fun q S h=>jN q S h.2.2) ⟨Ze _ _ _,by rw[Zc nlD,Ze],j1⟩
 exact pC
end
open Go.Proofs Go.RowKit
def VQ(p:Pg):List Ty:=p.consts.map Nt.ty++p.preds.flatMap Pd.types
def OX(p:Pg):List Ty:=(p.rules.flatMap fun r=>XH r.form)++p.queries.flatMap fun q=>q.vars.map Nt.ty++XH q.form
theorem ND{α β:Type}(f:α->List β){l:List α}{i:Nat}{a:α}(h:l[i]?=some a):(l.take (i+1)).flatMap f=(l.take i).flatMap f++f a/\l.flatMap f=(l.take i).flatMap f++(f a++(l.drop (i+1)).flatMap f):=by
 constructor
 ·rw[jh,h,jj,List.flatMap_append];simp
 ·conv=>lhs;rw[Z6 h,List.flatMap_append,List.flatMap_cons]
theorem FN{α β:Type}(f:α->β){l:List α}{i:Nat}{a:α}(h:l[i]?=some a):(l.take (i+1)).map f=(l.take i).map f++[f a]/\l.map f=(l.take i).map f++(f a::(l.drop (i+1)).map f):=by
 constructor
 ·rw[jh,h,jj,jv];rfl
 ·conv=>lhs;rw[Z6 h,jv,iR]
abbrev Y3 (b:Nat) (p:Pg) (S:Store):Prop:=S.get b=some (.cells p.emb)
theorem dW(t:List Str)(c:List Nt)(d:List Pd)(r:List Rl)(q:List Qy):Pg.emb ⟨t,c,d,r,q⟩=[.list .none 1 (ZX t),.list .none 3 (cZ c),.list .none 4 (df d),.list .none 8 (dx r),.list .none 8 (dy q)]:=rfl
structure OT (p:Pg):Prop where
 types:p.types.length<=137438953472
 consts:p.consts.length<=137438953472
 preds:p.preds.length<=137438953472
 rules:p.rules.length<=137438953472
 queries:p.queries.length<=137438953472
 ptypes:∀ d∈p.preds,d.types.length<=137438953472
 pmodes:∀ d∈p.preds,d.modes.length<=137438953472
 qvars:∀ q∈p.queries,q.vars.length<=137438953472
theorem Sf{p:Pg}(h:Ok (.agg p.emb)):OT p:=by
 obtain⟨ts,cs,ds,rs,qs⟩:=p
 rw[dW] at h
 have h1:=(h.agg (c:=.list .none 1 (ZX ts)) xf).len
 have h2:=(h.agg (c:=.list .none 3 (cZ cs)) xf).len
 have h3:=h.agg (c:=.list .none 4 (df ds)) xf
 have h4:=(h.agg (c:=.list .none 8 (dx rs)) xf).len
 have h5:=h.agg (c:=.list .none 8 (dy qs)) xf
 refine⟨by simpa[ZX] using h1,by simpa[cZ] using h2,by simpa[df] using h3.len,by simpa[dx] using h4,by simpa[dy] using h5.len,fun d hd=>?_,fun d hd=>?_,fun q hq=>?_⟩
 ·have:=(h3.mem (e:=d.emb) (iB hd)).agg (c:=.list .none 2 (cI d.types)) (by simp[Pd.emb])
  simpa[cG] using this.len
 ·have:=(h3.mem (e:=d.emb) (iB hd)).agg (c:=.list .none 1 (Zu d.modes)) (by simp[Pd.emb])
  simpa[Zu] using this.len
 ·have:=(h5.mem (e:=q.emb) (iB hq)).agg (c:=.list .none 3 (cZ q.vars)) (by simp[Qy.emb])
  simpa[cZ] using this.len
theorem UR(b:Nat)(p:Pg)(hp:OT p):BW nC 271 [.pointer (some ⟨b,0,none⟩)] (Y3 b p) tyA (VQ p):=by
 intro y own I T σ hy hN hI
 have l1:=hp.consts
 have l2:=hp.preds
 have l3:=hp.ptypes
 clear hp
 obtain⟨pt,cs,ds,rs,qs⟩:=p
 simp only[dW,Y3] at hN l1 l2 l3
 have g0:=hN _ _ hI
 have hD:VQ ⟨pt,cs,ds,rs,qs⟩=cs.map Nt.ty++ds.flatMap Pd.types:=rfl
 rw[hD]
 refine Zb [] [] Tryz.func271 rfl xy ?_;rw[Tryz.ntmps271,Tryz.results271]
 try simp only[go_sem,seval,g0]
 refine Zp (mu:=[]) (dr:=[]) [4,12,13,14,15,16,17,18,19,20,21] (fun x:Nat×Store=>[(12,vi x.1)]) (fun x=>x.2)
  (fun x=>x.1<=cs.length/\I ((cs.take x.1).map Nt.ty) x.2) (fun x=>cs.length-x.1) (0,σ) xy ⟨by simp,by simpa using hI⟩ ⟨.refl _,trivial⟩ (.refl _) ?_
 rintro⟨i,S⟩ ⟨hi,hIi⟩
 dsimp only at hi hIi
 by_cases hi2:(i:Int)<(cs.length:Int)
 ·have x1:=iS hi2
  refine uB fun x0=>?_
  obtain⟨a,ha⟩:∃ a,cs[i]?=some a:=⟨cs[i]' xh,iO xh⟩
  have g:(cZ cs)[i]?=some a.emb:=by rw[cZ,jp,ha];rfl
  refine uz fun w3=>?_
  have hs:=hy.step _ a.ty S hIi
  obtain⟨t1,t2⟩:=FN Nt.ty ha
  obtain⟨sa,⟨xa,xl⟩⟩:=a
  simp only[eb,tyA,cQ] at g hs
  try simp only[go_sem,seval,dw,x0,x1,g,iT,iF,jq,jr,jt]
  intro b9 hb9
  refine uw ?_
  refine(hs.sub (.cons _ _)).mono ?_
  rintro r S2 ⟨hk2,(⟨rfl,h2⟩|⟨rfl,hT⟩)⟩
  ·exact qg
  ·refine uw ?_
   refine .mk (.refl _) (.refl _) ⟨rfl,.inr ⟨_,(cs.drop (i+1)).map Nt.ty++ds.flatMap Pd.types,?_,hT⟩⟩
   rw[t2,ju,ju];rfl
 ·have x1:=iU hi2
  rw[iW xh] at hIi
  have g1:=hN _ _ hIi
  try simp only[go_sem,seval,dw,x1,iV,g1]
  refine Zp (mu:=[]) (dr:=[]) [6,8,25,26,27,28,29,30,31,32,33,34,35,36,37,38,39,40,41] (fun x:Nat×Store=>[(25,vi x.1)]) (fun x=>x.2)
   (fun x=>x.1<=ds.length/\I (cs.map Nt.ty++(ds.take x.1).flatMap Pd.types) x.2) (fun x=>ds.length-x.1) (0,S) xy ⟨by simp,by simpa using hIi⟩ ⟨.refl _,trivial⟩ (.refl _) ?_
  rintro⟨j,S⟩ ⟨hj,hIj⟩
  dsimp only at hj hIj
  by_cases hj2:(j:Int)<(ds.length:Int)
  ·have x1:=iS hj2
   refine vy fun x0=>?_
   obtain⟨d,hd⟩:∃ a,ds[j]?=some a:=⟨ds[j]' xh,iO xh⟩
   have g:(df ds)[j]?=some d.emb:=by rw[df,jp,hd];rfl
   refine vS fun w3=>?_
   have l3d:=l3 d (iG hd)
   obtain⟨u1,u2⟩:=ND Pd.types hd
   obtain⟨sd,td,kd,md⟩:=d
   simp only[Pd.emb] at g l3d u1 u2
   try simp only[go_sem,seval,dC,x0,x1,g,iT,iF,jq,jr,jt]
   intro b8 hb8
   refine uw ?_
   refine Zp (mu:=[]) (dr:=[]) [8,32,33,34,35,36,37,38,39,40] (fun x:Nat×Store=>[(32,vi x.1)]) (fun x=>x.2)
    (fun x=>x.1<=td.length/\I (cs.map Nt.ty++((ds.take j).flatMap Pd.types++td.take x.1)) x.2) (fun x=>td.length-x.1) (0,S) xy ⟨by simp,by simpa using hIj⟩ ⟨.refl _,trivial⟩ (.cons _ _) ?_
   rintro⟨i,S3⟩ ⟨hi,hIi3⟩
   dsimp only at hi hIi3
   by_cases hi2:(i:Int)<(td.length:Int)
   ·have x1:=iS hi2
    refine uB fun x0=>?_
    obtain⟨a,ha⟩:∃ a,td[i]?=some a:=⟨td[i]' xh,iO xh⟩
    have g:(cI td)[i]?=some a.emb:=by rw[di,jp,ha];rfl
    have w4:IntKind.i64.wrap ((i:Int)+1)=((i+1:Nat):Int):=Zk xh xh
    have hs:=hy.step _ a S3 hIi3
    have t1:td.take (i+1)=td.take i++[a]:=by rw[jh,ha];rfl
    have t2:=Z6 ha
    obtain⟨xa,xl⟩:=a
    simp only[tyA,cQ] at g hs
    try simp only[go_sem,seval,cG,x0,x1,g,iT,iF,jq,jr,jt]
    intro b9 hb9
    refine uw ?_
    refine(hs.sub (.cons _ _)).mono ?_
    rintro r S2 ⟨hk2,(⟨rfl,h2⟩|⟨rfl,hT⟩)⟩
    ·try simp only[go_sem,seval,w4]
     exact .mk (i+1,S2) ⟨by dsimp only;omega,by dsimp only;rw[t1];simpa[List.append_assoc] using h2⟩ xX ⟨.refl _,trivial⟩ yS (.refl _)
    ·refine uw ?_
     refine .mk (.refl _) (.refl _) ⟨rfl,.inr ⟨_,td.drop (i+1)++(ds.drop (j+1)).flatMap Pd.types,?_,hT⟩⟩
     rw[u2];conv=>lhs;rw[t2]
     simp[ju]
   ·have x1:=iU hi2
    have e:td.take i=td:=iW xh
    rw[e] at hIi3
    try simp only[go_sem,seval,cG,x1,iV,w3]
    exact .mk (j+1,S3) ⟨by dsimp only;omega,by dsimp only;rw[u1];exact hIi3⟩ xX ⟨.refl _,trivial⟩ yW (.refl _)
  ·have x1:=iU hj2
   rw[iW xh] at hIj
   try simp only[go_sem,seval,dC,x1,iV]
   exact .mk (.refl _) (.refl _) ⟨rfl,.inl hIj⟩
end Go.Vx
end
section
namespace Go.Vx
open Go.RowKit
def Yb(own:List Nat)(S S':Store):Prop:=∀ k x,S.get k=some x->k ∉ own->(∀ e c,x≠.tail e c)->S'.get k=some x
theorem Yb.refl(own:List Nat)(S:Store):Yb own S S:=fun _ _ h _ _=>h
theorem Yb.trans{own:List Nat}{a b c:Store}(h:Yb own a b)(k:Yb own b c):Yb own a c:=fun i x hi hn hx=>k i x (h i x hi hn hx) hn hx
structure Rz {α:Type} (P:Program) (y:AV) (e:α->AV) (own:List Nat) (I T:List α->Store->Prop) (N:Nat):Prop where
 has:∀ q S,I q S->∀ k∈own,(S.get k).isSome=true
 cons:∀ q S k x,I q S->Zm S k->I q ((k,x)::S)
 step:∀ q a S,q.length<N->I q S->ZH P y [e a] S (fun r S'=>Yb own S S'/\((r=.ret (vb true)/\I (q++[a]) S')\/(r=.ret (vb false)/\T (q++[a]) S')))
theorem Rz.notin{α:Type}{P:nE}{y:AV}{e:α->AV}{own:List Nat}{I T:List α->Store->Prop}{N:Nat}(h:Rz P y e own I T N){q:List α}{S:Store}(hI:I q S){k:Nat}(hk:Zm S k):k ∉ own:=fun hm=>by
 have:=h.has q S hI k hm
 rw[Zj hk] at this
 cases this
def B6{α:Type}(P:nE)(g:nL)(cap:List nG)(N:Store->Prop)(e:α->AV)(L:List α):Prop :=
 ∀ (yf:Fn) (ya yb:nN nG) (own:List Nat) (I T:List α->Store->Prop) (σ:Store),Rz P (.val (.func yf ya yb)) e own I T L.length->(∀ q S,I q S->N S)->I [] σ ->
   Zh P g (.val (.func yf ya yb)::cap.map .val) σ (fun r S'=>r=.ret (.tup [])/\(I L S'\/∃ p s,L=p++s/\T p S'))
section
variable {α:Type}
def kBt(own:List Nat)(J:List α->Store->Prop)(T:Code->List α->Store->Prop)(q:List α)(S:Store):Exit->Fr->Store->Prop
 | .normal,_,S'=>J q S'/\Yb own S S'
 | .ret,_,S'=>T .ret q S'/\Yb own S S'
 | .exit i,_,S'=>T (.exit i) q S'/\Yb own S S'
 | _,_,_=>False
theorem KP(own:List Nat)(J:List α->Store->Prop)(T:Code->List α->Store->Prop)(q:List α)(S:Store)(fr:Fr)(S':Store):kBt own J T q S .normal fr S'=(J q S'/\Yb own S S'):=rfl
theorem CW(own:List Nat)(J:List α->Store->Prop)(T:Code->List α->Store->Prop)(q:List α)(S:Store)(fr:Fr)(S':Store):kBt own J T q S .ret fr S'=(T .ret q S'/\Yb own S S'):=rfl
theorem Ee(own:List Nat)(J:List α->Store->Prop)(T:Code->List α->Store->Prop)(q:List α)(S:Store)(i:Nat)(fr:Fr)(S':Store):kBt own J T q S (.exit i) fr S'=(T (.exit i) q S'/\Yb own S S'):=rfl
def kAt(P:nE)(n:Nat)(body:Code)(own:List Nat)(J:List α->Store->Prop)(T:Code->List α->Store->Prop)(q:List α)(a:α)(S:Store):Exit->Fr->Store->Prop
 | .normal,fr,S1=>Yb own S S1/\J q S1/\∀ S2,J q S2->Xc S1 S2->AWp P n [] body (kBt own J T (q++[a]) S2) fr S2
 | _,_,_=>False
theorem KS(P:nE)(n:Nat)(body:Code)(own:List Nat)(J:List α->Store->Prop)(T:Code->List α->Store->Prop)(q:List α)(a:α)(S:Store)(fr:Fr)(S1:Store) :
 kAt P n body own J T q a S .normal fr S1=(Yb own S S1/\J q S1/\∀ S2,J q S2->Xc S1 S2->AWp P n [] body (kBt own J T (q++[a]) S2) fr S2):=rfl
attribute [go_sem ↓] KP CW Ee KS
theorem DWp.rangeT{P:nE}{n:Nat}{ds:List nK}{g:nJ}{p:Tmp}{assign body:Code}{Q:Exit->List nK->Fr->Store->Prop}{fr:Fr}{σ:Store}{e:α->AV}{L:List α}(gf:nL)(cap:nN nG)(N:Store->Prop)(own:List Nat)
 (J:List α->Store->Prop) (T:Code->List α->Store->Prop) (hB:(dT n g&&decide (p<n))=true) (hg:fr.ev g=.val (.func (.func gf) #[] cap)) (hIt:B6 P gf cap.toList N e L)
 (j0:J [] σ) (jc:∀ q S k x,J q S->Zm S k->J q ((k,x)::S)) (js:∀ q S l r x,J q S->Zm σ l->S.get l=some (.raw (.loop r))->J q (S.set l x))
 (ts:∀ c q S l r x,T c q S->Zm σ l->S.get l=some (.raw (.loop r))->T c q (S.set l x))
 (jN:∀ q S,J q S->N S) (jo:∀ q S,J q S->∀ k∈own,(S.get k).isSome=true)
 (hr:∀ tmps:nN nG,tmps.size=n->(∀ i v,i<n->fr i=.val v->tmps.getD i undef=v)->∀ q a S,q.length<L.length->J q S->AWp P n [] assign (kAt P n body own J T q a S) ((eV tmps).put p (e a)) S)
 (hn:∀ D S,Zm σ D->S.get D=some (.raw (.deferred (some [])))->J L S->Q .normal (WS D::ds) fr S)
 (hx:∀ D S c q s,Zm σ D->S.get D=some (.raw (.deferred (some [])))->L=q++s->T c q S->Oy Q (WS D::ds) fr S (some c)):DWp P n ds (.rangeFunc g #[p] assign body) Q fr σ:=by
 simp only[kJ,kD] at hB
 refine .range hB.1 gf cap hg ?_
 intro D l r hD hl hst hpe hpa has hbo hrs htm
 have fl:Zm ((D,AObj.raw (.deferred (some [])))::σ) l:=hl
 have nlD:l≠D:=hl.1.symm
 have noD:∀ q S,J q S->D ∉ own/\l ∉ own:=by
  exact qZ
 obtain⟨nD,nl⟩:=noD _ _ j0
 have j1:J [] ((l,.raw (.loop r))::(D,.raw (.deferred (some [])))::σ):=jc _ _ _ _ (jc _ _ _ _ j0 hD) hl
 have hy:Rz P (.val (.func (.yield l) #[] #[])) e (l::own) (fun q S=>S.get l=some (.raw (.loop r))/\S.get D=some (.raw (.deferred (some [])))/\J q S)
  (fun q S=>∃ c,(c=.ret\/∃ i,c=.exit i)/\(∃ r2:Loop,S.get l=some (.raw (.loop r2))/\r2.state=.done/\r2.pending=some c)/\S.get D=some (.raw (.deferred (some [])))/\T c q S) L.length:=by
  refine⟨?_,?_,?_⟩
  ·exact sF
  ·exact rF
  ·rintro q a S hql ⟨h1,h2,h3⟩
   refine .inr ⟨l,_,rfl,rfl,?_⟩
   refine Tf h1 hpa (by rw[hrs];exact hB.2) hst hpe ?_
   rw[hrs,has]
   refine(hr r.tmps hrs htm q a S hql h3).mono ?_
   intro ex fr1 S1 q1
   cases ex with
   | normal =>
     obtain⟨k1,k2,k3⟩:=q1
     have g1:=k1 l _ h1 nl xf
     refine⟨g1,?_⟩
     have g2:=k1 D _ h2 nD xf
     have hJ2:=js _ _ _ _ (.raw (.loop { r with state:=.busy })) k2 fl.2 g1
     have gD2:(S1.set l (.raw (.loop { r with state:=.busy }))).get D=some (.raw (.deferred (some []))):=by rw[Za (iC nlD)];exact g2
     have gl2:(S1.set l (.raw (.loop { r with state:=.busy }))).get l=some (.raw (.loop { r with state:=.busy })):=Zd g1
     have kb:Yb (l::own) S (S1.set l (.raw (.loop { r with state:=.busy }))):=fun k x hk hn hx=>by
      rw[Za (fun e=>hn xW)];exact k1 k x hk (fun h=>hn (kR _ h)) hx
     have hkl:=Xc.set g1 (.raw (.loop { r with state:=.busy }))
     generalize S1.set l (.raw (.loop { r with state:=.busy }))=S2 at hJ2 gD2 gl2 kb hkl ⊢
     rw[hrs,hbo]
     refine(k3 S2 hJ2 hkl).mono ?_
     intro ex2 fr2 S3 q2
     have keepAll:∀ x,Yb own S2 S3->Yb (l::own) S (S3.set l x):=fun x h k y hk hn hy=>by
      have hkl:k≠l:=fun e=>hn xW
      rw[Za hkl]
      exact h k y (kb k y hk hn hy) (fun h=>hn (kR _ h)) hy
     have getD3:∀ x,Yb own S2 S3->(S3.set l x).get D=some (.raw (.deferred (some []))):=fun x h=>by rw[Za (iC nlD)];exact h D _ gD2 nD xf
     cases ex2 with
     | normal =>
       obtain⟨a1,a2⟩:=q2
       have g3:=a2 l _ gl2 nl xf
       exact⟨g3,keepAll _ a2,.inl ⟨rfl,Zd g3,getD3 _ a2,js _ _ _ _ _ a1 fl.2 g3⟩⟩
     | ret =>
       obtain⟨a1,a2⟩:=q2
       have g3:=a2 l _ gl2 nl xf
       exact ss
     | exit i =>
       obtain⟨a1,a2⟩:=q2
       have g3:=a2 l _ gl2 nl xf
       exact rU
     | goto t=>exact q2.elim
     | panic c=>exact q2.elim
     | outgrown=>exact q2.elim
   | exit i=>exact q1.elim
   | goto t=>exact q1.elim
   | ret=>exact q1.elim
   | panic c=>exact q1.elim
   | outgrown=>exact q1.elim
 have h0:=hIt _ _ _ (l::own) _ _ _ hy (fun q S h=>jN q S h.2.2) ⟨Ze _ _ _,by rw[Zc nlD,Ze],j1⟩
 exact pC
end
open Go.Proofs Go.RowKit
theorem JT(b:Nat)(p:Pg)(hp:OT p):BW nC 272 [.pointer (some ⟨b,0,none⟩)] (Y3 b p) tyA (OX p):=by
 intro y own I T σ hy hN hI
 have l1:=hp.rules
 have l2:=hp.queries
 have l3:=hp.qvars
 clear hp
 obtain⟨pt,cs,ds,rs,qs⟩:=p
 simp only[dW,Y3] at hN l1 l2 l3
 have g0:=hN _ _ hI
 have hD:OX ⟨pt,cs,ds,rs,qs⟩=(rs.flatMap fun r=>XH r.form)++qs.flatMap fun q=>q.vars.map Nt.ty++XH q.form:=rfl
 rw[hD]
 refine Zb [] [] Tryz.func272 rfl xy ?_;rw[Tryz.ntmps272,Tryz.results272]
 try simp only[go_sem,seval,g0]
 refine Zp (mu:=[]) (dr:=[]) [4,12,13,14,15,16,17,18,19,20,21] (fun x:Nat×Store=>[(12,vi x.1)]) (fun x=>x.2)
  (fun x=>x.1<=rs.length/\I ((rs.take x.1).flatMap fun r=>XH r.form) x.2) (fun x=>rs.length-x.1) (0,σ) xy ⟨by simp,by simpa using hI⟩ ⟨.refl _,trivial⟩ (.refl _) ?_
 rintro⟨i,S⟩ ⟨hi,hIi⟩
 dsimp only at hi hIi
 by_cases hi2:(i:Int)<(rs.length:Int)
 ·have x1:=iS hi2
  refine uB fun x0=>?_
  refine wU fun a ha=>?_
  have g:(dx rs)[i]?=some a.emb:=by rw[dx,jp,ha];rfl
  refine uz fun w3=>?_
  have hs:=RM hy a.form _ S hIi
  obtain⟨t1,t2⟩:=ND (fun r:Rl=>XH r.form) ha
  generalize XH a.form=tf at hs t1 t2
  obtain⟨sa,⟨ka,na,la,⟨xa,xl⟩,fa⟩,ua⟩:=a
  simp only[dZ,cM] at g hs
  try simp only[go_sem,seval,du,x0,x1,g,iT,iF,jq,jr,jt]
  intro b9 hb9
  refine uw ?_
  refine(hs.sub (.cons _ _)).mono ?_
  rintro r S2 ⟨hk2,(⟨rfl,h2⟩|⟨rfl,p9,s9,hp9,hT⟩)⟩
  ·exact qg
  ·refine uw ?_
   refine .mk (.refl _) (.refl _) ⟨rfl,.inr ⟨_,s9++((rs.drop (i+1)).flatMap (fun r=>XH r.form)++qs.flatMap fun q=>q.vars.map Nt.ty++XH q.form),?_,hT⟩⟩
   rw[t2,hp9];simp only[ju]
 ·have x1:=iU hi2
  rw[iW xh] at hIi
  have g1:=hN _ _ hIi
  try simp only[go_sem,seval,du,x1,iV,g1]
  refine Zp (mu:=[]) (dr:=[]) [6,8,25,26,27,28,29,30,31,32,33,34,35,36,37,38,39,40,41,42,43,44,45,46,47] (fun x:Nat×Store=>[(25,vi x.1)]) (fun x=>x.2)
   (fun x=>x.1<=qs.length/\I ((rs.flatMap fun r=>XH r.form)++(qs.take x.1).flatMap fun q=>q.vars.map Nt.ty++XH q.form) x.2) (fun x=>qs.length-x.1) (0,S) xy ⟨by simp,by simpa using hIi⟩ ⟨.refl _,trivial⟩ (.refl _) ?_
  rintro⟨j,S⟩ ⟨hj,hIj⟩
  dsimp only at hj hIj
  by_cases hj2:(j:Int)<(qs.length:Int)
  ·have x1:=iS hj2
   refine vy fun x0=>?_
   obtain⟨d,hd⟩:∃ a,qs[j]?=some a:=⟨qs[j]' xh,iO xh⟩
   have g:(dy qs)[j]?=some d.emb:=by rw[dy,jp,hd];rfl
   refine vS fun w3=>?_
   have l3d:=l3 d (iG hd)
   obtain⟨u1,u2⟩:=ND (fun q:Qy=>q.vars.map Nt.ty++XH q.form) hd
   obtain⟨sd,td,fd⟩:=d
   dsimp only at l3d u1 u2
   have hsf:=RM hy fd
   generalize XH fd=tf at hsf u1 u2
   obtain⟨ka,na,la,⟨xa,xl⟩,fa⟩:=fd
   simp only[dX,cM] at g hsf
   try simp only[go_sem,seval,dA,x0,x1,g,iT,iF,jq,jr,jt]
   intro b8 hb8
   refine uw ?_
   have hb8n:=hy.notin hIj hb8
   obtain⟨Q8,hQ8⟩:∃ Q8:AObj,Q8=.cells [vs sd,.list .none 3 (cZ td),vi ka,vs na,.list .none 4 (cJ la),vs xa,.list .none 2 (cI xl),.list .none 6 (cN fa)]:=⟨_,rfl⟩
   rw[<- hQ8]
   refine Zp (mu:=[]) (dr:=[]) [8,32,33,34,35,36,37,38,39,40,41] (fun x:Nat×Store=>[(32,vi x.1)]) (fun x=>x.2)
    (fun x=>x.1<=td.length/\I ((rs.flatMap fun r=>XH r.form)++(((qs.take j).flatMap fun q=>q.vars.map Nt.ty++XH q.form)++(td.take x.1).map Nt.ty)) x.2/\x.2.get b8=some Q8) (fun x=>td.length-x.1) (0,(b8,Q8)::S) xy ⟨by simp,by simpa using hy.cons _ _ _ Q8 hIj hb8,Ze _ _ _⟩ ⟨.refl _,trivial⟩ (.refl _) ?_
   rintro⟨i,S3⟩ ⟨hi,hIi3,g8⟩
   dsimp only at hi hIi3 g8
   by_cases hi2:(i:Int)<(td.length:Int)
   ·have x1:=iS hi2
    refine uB fun x0=>?_
    obtain⟨a,ha⟩:∃ a,td[i]?=some a:=⟨td[i]' xh,iO xh⟩
    have g:(cZ td)[i]?=some a.emb:=by rw[cZ,jp,ha];rfl
    have w4:IntKind.i64.wrap ((i:Int)+1)=((i+1:Nat):Int):=Zk xh xh
    have hs:=hy.step _ a.ty S3 hIi3
    obtain⟨t1,t2⟩:=FN Nt.ty ha
    obtain⟨sa,⟨xa,xl⟩⟩:=a
    simp only[eb,tyA,cQ] at g hs
    try simp only[go_sem,seval,dw,x0,x1,g,iT,iF,jq,jr,jt]
    intro b9 hb9
    refine uw ?_
    refine(hs.sub (.cons _ _)).mono ?_
    rintro r S2 ⟨hk2,(⟨rfl,h2⟩|⟨rfl,hT⟩)⟩
    ·try simp only[go_sem,seval,w4]
     exact .mk (i+1,S2) ⟨by dsimp only;omega,by dsimp only;rw[t1];simpa[List.append_assoc] using h2,hk2 _ _ g8 hb8n⟩ xX ⟨.refl _,trivial⟩ yS (.refl _)
    ·refine uw ?_
     refine .mk (.refl _) (.refl _) ⟨rfl,.inr ⟨_,(td.drop (i+1)).map Nt.ty++(tf++(qs.drop (j+1)).flatMap fun q=>q.vars.map Nt.ty++XH q.form),?_,hT⟩⟩
     rw[u2,t2]
     simp[ju]
   ·have x1:=iU hi2
    have e:td.take i=td:=iW xh
    rw[e] at hIi3
    rw[hQ8] at g8
    try simp only[go_sem,seval,dw,x1,iV,w3,g8]
    refine(hsf _ S3 hIi3).mono ?_
    rintro r S2 ⟨hk2,(⟨rfl,h2⟩|⟨rfl,p9,s9,hp9,hT⟩)⟩
    ·refine vF ?_
     exact .mk (j+1,S2) ⟨by dsimp only;omega,by dsimp only;rw[u1];simpa[List.append_assoc] using h2⟩ xX ⟨.refl _,trivial⟩ yW (.refl _)
    ·refine uw ?_
     refine .mk (.refl _) (.refl _) ⟨rfl,.inr ⟨_,s9++(qs.drop (j+1)).flatMap fun q=>q.vars.map Nt.ty++XH q.form,?_,hT⟩⟩
     rw[u2,hp9]
     simp only[ju]
  ·have x1:=iU hj2
   rw[iW xh] at hIj
   try simp only[go_sem,seval,dA,x1,iV]
   exact .mk (.refl _) (.refl _) ⟨rfl,.inl hIj⟩
end Go.Vx
end
section
namespace Go.Vx
open Go.Proofs
theorem Fh(a:Ty):∀ b,Pur nC 300 [.agg a.emb,.agg b.emb] (vb (UC a b)):=by
 induction a using eC with|h s l ih=>?_
 intro b σ
 obtain⟨s',l'⟩:=b
 have he:UC (.mk s l) (.mk s' l')=(decide (s=s')&&Vd l l'):=rfl
 rw[he]
 simp only[cQ]
 refine Zb [] [] Tryz.func300 rfl xy ?_;rw[Tryz.ntmps300,Tryz.results300]
 by_cases h:s=s'
 ·have x1:=iS h
  try simp only[go_sem,seval,x1,iT]
  refine(OJ 300 l l' .none .none 2 2 (.inl rfl) (.inl rfl) ih).use ?_
  refine uw ?_
  exact Zs xm
 ·have x1:=iU h
  try simp only[go_sem,seval,x1,iV]
  exact Zs xm
mutual
def Xt:Ty->List Ty×Ty
 | .mk s l=>(P8 l).getD ([],.mk s l)
def P8:List Ty->nM (List Ty×Ty)
 | [a,b]=>some (a::(Xt b).1,(Xt b).2)
 | _=>none
end
theorem Ei(t:Ty):Pur nC 302 [.agg t.emb] (vb (decide (0<t.kids.length))):=by
 intro σ
 obtain⟨s,l⟩:=t
 simp only[cQ,Ty.kids]
 refine Zb [] [] Tryz.func302 rfl xy ?_;rw[Tryz.ntmps302,Tryz.results302]
 refine wq ?_
 exact Zs (decide_eq_decide.2 xh)
open Go.Proofs
theorem JU(t:Ty)(hb:(Xt t).1.length<=1000000):Pur nC 299 [.agg t.emb] (.tup [.list .none 2 (cI (Xt t).1),.agg (Xt t).2.emb]):=by
 intro σ
 refine Zh.nodup xy (fun hnd=>?_)
 obtain⟨t0,ht0⟩:∃ t0:Ty,t0=t:=⟨_,rfl⟩
 rw[<- ht0] at hb ⊢
 obtain⟨s,l⟩:=t0
 have he:(Ty.mk s l).emb=[vs s,.list .none 2 (cI l)]:=rfl
 rw[he]
 obtain⟨u0,hu0⟩:∃ u0:Ty,u0=.mk s l:=⟨_,rfl⟩
 rw[<- hu0] at hb ⊢
 refine Zb [1] [(5,3,0)] Tryz.func299 rfl xy ?_;rw[Tryz.ntmps299,Tryz.results299]
 refine uw ?_
 intro b1 hb1 b3 hb3
 refine uw ?_
 have f1:Zm σ b1:=hb1
 have f3:Zm σ b3:=hb3.2
 have n31:b3≠b1:=hb3.1.symm
 have e31:=iC n31
 refine Zp (mu:=[1]) (dr:=[]) [4,5,6,7,8,9,10,11,12,13,14,15,16,17,18,19] (fun x:Ty×List Ty×AV×Store=>[(4,x.2.2.1)]) (fun x=>x.2.2.2)
  (fun x=>Xt u0=(x.2.1++(Xt x.1).1,(Xt x.1).2)/\x.2.2.2.get b1=some (.cells x.1.emb)/\(∃ y1 y2,x.2.2.2.get b3=some (.cells [y1,y2]))/\LV σ x.2.2.2 x.2.2.1 2 (cI x.2.1)/\Has σ x.2.2.2) (fun x=>SizeOf.sizeOf x.1)
  (u0,[],.list .full 0 [],_) xy ⟨by simp,by rw[hu0];simp[Store.get,n31,he],⟨_,_,Ze _ _ _⟩,LV.nil _ _ _,((Has.refl σ).cons _).cons _⟩ ⟨.refl _,trivial⟩ (.refl _) ?_
 rintro⟨⟨su,lu⟩,xs,v,S⟩ ⟨i1,g1,⟨y1,y2,g3⟩,iL,iH⟩
 dsimp only at i1 g1 g3 iL iH
 simp only[cQ] at g1
 by_cases h2:lu.length=2
 ·obtain⟨a,b,rfl⟩:∃ a b,lu=[a,b]:=by
   match lu,h2 with
   | [a,b],_=>exact⟨a,b,rfl⟩
  have hsp:Xt (.mk su [a,b])=(a::(Xt b).1,(Xt b).2):=by simp[Xt,P8]
  rw[hsp] at i1
  have hsz:SizeOf.sizeOf b<SizeOf.sizeOf (Ty.mk su [a,b]):=by simp;omega
  have hxl:xs.length+1<=1000000:=by
   rw[i1] at hb;simp only[ii,ij] at hb;omega
  have x1:(((cI [a,b]).length:Int)=2)=True:=iS (by simp[cI])
  have q0:(cI [a,b])[0]?=some a.emb:=rfl
  have q1:(cI [a,b])[1]?=some b.emb:=rfl
  have q2:((cI [a,b]).length)=2:=by simp[cI]
  obtain⟨sa,la⟩:=a
  obtain⟨sb,lb⟩:=b
  simp only[cQ] at q0 q1
  try simp only[go_sem,seval,g1,x1,q0,q1,q2,iT,jq,jr,jt,iL.one,iL.cells]
  refine⟨rfl,iL.append rfl xj (by rw[cG];simp only[ij,im];omega) rfl xf iH (fun v' S' hv' hkp hS'=>?_)⟩
  have g1':=hkp _ _ g1 xf
  have g3':=hkp _ _ g3 xf
  try simp only[go_sem,seval,g1',q0,q1,q2,iT,jq,jr,jt,hv'.one,hv'.cells,cG]
  refine .mk (.mk sb lb,xs++[.mk sa la],v',S'.set b1 (.cells [vs sb,.list .none 2 (cI lb)])) ⟨?_,Zd g1',⟨y1,y2,by dsimp only;rw[Za n31];exact g3'⟩,?_,hS'.set f1 _⟩ hsz ⟨.refl _,trivial⟩ yS (.refl _)
  ·dsimp only;rw[i1,List.append_assoc];rfl
  ·have:cI (xs++[.mk sa la])=cI xs++[[AV.val (Value.string sa),AV.list Rt.none 2 (cI la)]]:=by simp[di,cQ]
   dsimp only
   rw[this]
   exact hv'.set g1' xf _
 ·have hsp:Xt (.mk su lu)=([],.mk su lu):=by
   match lu,h2 with
   | [],_=>rfl
   | [a],_=>rfl
   | [a,b],h=>exact absurd rfl h
   | a::b::c::r,_=>rfl
  rw[hsp] at i1
  have x1:(((cI lu).length:Int)=2)=False:=iU (by rw[cG];omega)
  rw[i1,kh]
  simp only[cQ]
  try simp only[go_sem,seval,g1,g3,x1,iV,iL.one,iL.cells]
  exact .mk (.tup2 iL.wk (.refl _)) ((iH.set f3 _).sub hnd) ⟨rfl,rfl⟩
def VA(t:Ty):Bool:=decide ((Xt t).1.length<=8)&&!((Xt t).1.any fun a=>decide (0<a.kids.length))
theorem So(t:Ty)(hb:(Xt t).1.length<=1000000):Pur nC 284 [.agg t.emb] (vb (VA t)):=by
 intro σ
 have hs:=JU t hb
 have hv:VA t=(decide ((Xt t).1.length<=8)&&!((Xt t).1.any fun a=>decide (0<a.kids.length))):=rfl
 rw[hv]
 generalize Xt t=p at hs hb
 obtain⟨xs,⟨su,lu⟩⟩:=p
 dsimp only at hs hb ⊢
 have ha:=fun σ=>aF σ xs .none 2 (.inl rfl) (.func (.func 302) #[] #[]) (fun a=>decide (0<a.kids.length)) (fun d _=>by rw[Z4];exact Ei d σ)
 obtain⟨s,l⟩:=t
 simp only[cQ] at hs ⊢
 refine Zb [] [] Tryz.func284 rfl xy ?_;rw[Tryz.ntmps284,Tryz.results284]
 refine uw ?_
 refine hs.use ?_
 refine uw ?_
 intro b4 hb4
 by_cases h8:xs.length<=8
 ·have x1:((xs.length:Int)<=8)=True:=iS xh
  try simp only[go_sem,seval,cG,x1,iT]
  refine(ha _).mono ?_
  rintro r σ' ⟨rfl,rfl⟩
  generalize xs.any (fun a=>decide (0<a.kids.length))=q
  rw[jy h8]
  cases q with
  | true=>try simp only[go_sem,seval];exact Zz (.refl _) (.cons _ _)
  | false=>try simp only[go_sem,seval];exact Zz (.refl _) (.cons _ _)
 ·have x1:((xs.length:Int)<=8)=False:=iU xh
  rw[jY h8]
  try simp only[go_sem,seval,cG,x1,iV]
  exact oW
end Go.Vx
end
