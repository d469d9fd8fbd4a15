/- A part of the proof of clausalSpinesProved. -/
import Derived.Test.YtllgjklcpieanaaGreatDoorR27
set_option linter.unusedVariables false
set_option linter.unusedSimpArgs false
set_option maxRecDepth 100000
section
namespace Go.Vx
open Go.Proofs
abbrev PSt:=List Int×Nat×Nat×Nat
def Vb(f:Flat)(i env:Nat)(c:Zr)(t:Int)(A:List Int)(g s:Nat):nM Nat :=
 match c.goals[g]?,c.lasts[g]? with
 | some x,some b=>if b=decide (t=5) then Yr f i c.locals ((env+c.vars.length:Nat):Int) x A s else none
 | _,_=>none
def UI(f:Flat)(i env:Nat)(c:Zr)(t:Int)(q:PSt):nM PSt :=
 if t=3 then some (Vn q.1 ((env+q.2.1:Nat):Int),q.2.1+1,q.2.2.1,q.2.2.2)
 else if t=4\/t=5 then(Vb f i env c t q.1 q.2.2.1 q.2.2.2).map fun s'=>(q.1,q.2.1,q.2.2.1+1,s')
 else some q
def TC(f:Flat)(i env:Nat)(c:Zr):List Int->PSt->nM PSt
 | [],q=>some q
 | t::r,q=>(UI f i env c t q).bind (TC f i env c r)
theorem Oh(f:Flat)(i env:Nat)(c:Zr)(l m:List Int)(q:PSt):TC f i env c (l++m) q=(TC f i env c l q).bind (TC f i env c m):=by
 induction l generalizing q with
 | nil=>rfl
 | cons t r ih =>
   simp only[kE,TC]
   cases UI f i env c t q with
   | none=>rfl
   | some p=>exact ih p
def WK(n:Nat):List Int:=(List.range n).map fun i:Nat=>(i:Int)
theorem TQ(n:Nat):(WK n).length=n:=by simp[WK]
theorem Mz(n:Nat):WK (n+1)=WK n++[(n:Int)]:=by simp[WK,List.range_succ]
theorem Kn(n:Nat):(n:Int) ∉ WK n:=by
 simp only[WK,kK,List.mem_range,not_exists,not_and]
 intro x hx h
 omega
def Wx(f:Flat)(i:Nat)(c:Zr):Bool :=
 match f.groups[i]? with
 | some G=>c.vars.all Z1&&c.locals.all Z1&&ZO c.name&&decide (c.lasts.length=c.goals.length)&&decide (G.env.length+c.vars.length+c.locals.length<=2000) &&
   (match TC f i G.env.length c c.path (WK G.env.length,0,0,0) with
   | some (A,v,g,s)=>decide (v=c.vars.length)&&decide (g=c.goals.length)&&decide (s=c.locals.length)&&c.args.all (XW A)
   | none=>false)
 | none=>false
theorem E6(f:Flat)(i:Nat)(G:FGroup)(hG:f.groups[i]?=some G)(c:Zr):Pur nC 63 [.agg f.emb,vi i,.agg c.emb] (vb (Wx f i c)):=by
 intro σ
 refine Zh.ok xy (fun hok=>?_)
 have hlf:=(((hok _ ir).agg (c:=.list .none 2 (cX f.groups)) xV).len)
 rw[cL] at hlf
 have hlG:G.env.length<=137438953472:=by
  have h:=((hok _ ir).agg (c:=.list .none 2 (cX f.groups)) xV).mem (e:=G.emb) (by
   rw[cX];exact iB (iG hG))
  have:=(h.agg (c:=.list .none 2 (cI G.env)) yg).len
  rwa [cG] at this
 have hcc:=hok (.agg c.emb) xf
 have hlv:=((hcc.agg (c:=.list .none 2 (cI c.vars)) xK).len)
 have hlo:=((hcc.agg (c:=.list .none 2 (cI c.locals)) xK).len)
 have hlp:=((hcc.agg (c:=.list .none 1 (Zu c.path)) xK).len)
 have hlg:=((hcc.agg (c:=.list .none 9 (cY c.goals)) xK).len)
 rw[cG] at hlv hlo
 rw[cH] at hlg
 rw[io] at hlp
 clear hok hcc
 have hil:i<f.groups.length:=(List.getElem?_eq_some_iff.1 hG).1
 have h1:=VS c.vars .none 2 (.inl rfl)
 have h2:=VS c.locals .none 2 (.inl rfl)
 have h3:=Wj c.name
 unfold Wx
 rw[hG]
 simp only[Flat.emb,Zr.emb]
 refine Zb [77] [(25,20,0)] Tryz.func63 rfl xy ?_;rw[Tryz.ntmps63,Tryz.results63]
 try simp only[go_sem,seval,cL]
 refine⟨by omega,by omega,fun cc hc=>?_⟩
 rw[iF] at hc
 obtain⟨u,hu,rfl⟩:=dS hc
 obtain rfl:G=u:=by rw[hG] at hu;injection hu
 try simp only[go_sem,seval,FGroup.emb,cG]
 refine h1.use ?_
 obtain⟨b1,f1⟩:∃ b,c.vars.all Z1=b:=⟨_,rfl⟩
 obtain⟨b2,f2⟩:∃ b,c.locals.all Z1=b:=⟨_,rfl⟩
 obtain⟨b3,f3⟩:∃ b,ZC 1 c.name=b:=⟨_,rfl⟩
 obtain⟨b4,f4⟩:∃ b,decide ((c.lasts.length:Int)=c.goals.length)=b:=⟨_,rfl⟩
 have f4':decide (c.lasts.length=c.goals.length)=b4:=by rw[<- f4];exact decide_eq_decide.2 xh
 have hw1:IntKind.i64.wrap ((G.env.length:Int)+c.vars.length)=((G.env.length+c.vars.length:Nat):Int):=by rw[Zk xh xh];omega
 have hw2:IntKind.i64.wrap (((G.env.length+c.vars.length:Nat):Int)+c.locals.length)=((G.env.length+c.vars.length+c.locals.length:Nat):Int):=by rw[Zk xh xh];omega
 obtain⟨b5,f5⟩:∃ b,decide (2000<((G.env.length+c.vars.length+c.locals.length:Nat):Int))=b:=⟨_,rfl⟩
 have f5':decide (G.env.length+c.vars.length+c.locals.length<=2000)=!b5:=by rw[<- f5,<- jm];exact decide_eq_decide.2 xh
 simp only[ZO]
 rw[f1,f2,f3,f4',f5']
 rw[f1] at *
 rw[f2] at h2
 rw[f3] at h3
 cases b1
 ·exact pN
 refine uW ?_
 refine h2.use ?_
 cases b2
 ·exact pN
 refine uW ?_
 refine h3.use ?_
 cases b3
 ·exact pN
 refine uW ?_
 cases b4
 ·exact pN
 refine uW ?_
 cases b5
 rotate_left
 ·exact pN
 refine uW ?_
 intro r hr
 refine uI fun hw=>?_
 refine Zp (mu:=[77]) (dr:=[(25,20,0)]) [9,61,62,63,64,65,66] (fun j:Nat=>[(61,vi j)]) (fun j=>(r,.map (ZS keI (Yj (WK j))) j)::σ) (fun j=>j<=G.env.length) (fun j=>G.env.length-j) 0 xy xh ⟨.refl _,trivial⟩ (.refl _) ?_
 rintro j hj
 refine uW ?_
 refine⟨fun q1=>?_,fun q1=>?_⟩
 ·refine Yv (l:=Yj (WK j)) (c:=j) fa0 fa1 (Ze _ _ _) ?_
  obtain⟨u1,u2⟩:=Sl (WK j) j (Kn j)
  rw[TQ] at u1 u2
  rw[u1,u2,Yo,<- Mz,TQ]
  refine uW ?_
  rw[hw j xh]
  exact .mk (j+1) xh xh ⟨.refl _,trivial⟩ yS (.refl _)
 ·have hje:j=G.env.length:=by omega
  subst hje
  refine uW ?_
  intro bk hbk
  have hkr:bk≠r:=iC hbk.1
  have hck:∀ s:Nat,AObj.cells [.list .none 2 (cX f.groups),.list .none 1 (Zu f.rules),vi (i:Int),.list .none 2 (cI c.locals),vi (((G.env.length+c.vars.length:Nat):Int)+s),vi s]=ckO f i c.locals ((G.env.length+c.vars.length:Nat):Int) s:=fun s=>rfl
  have hck0:=hck 0
  rw[show(((G.env.length+c.vars.length:Nat):Int)+((0:Nat):Int))=((G.env.length+c.vars.length:Nat):Int) by omega] at hck0
  generalize hbase:((G.env.length+c.vars.length:Nat):Int)=base at hck hck0 ⊢
  have hn5:G.env.length+c.vars.length+c.locals.length<=2000:=by have:=of_decide_eq_false f5;omega
  obtain⟨q0,hq0⟩:∃ q0:PSt,q0=(WK G.env.length,0,0,0):=⟨_,rfl⟩
  rw[<- hq0]
  refine Zp (mu:=[77]) (dr:=[(25,20,0)]) [6,11,12,14,81,82,83,84,85,86,87,88,89,90,91,92,93,94,95,96,97,98,99,100,101,102,103,104,105,106,107,108,109,110,111,112,113,114,115,116,117,118,119,120,121,122,123,124,125] (fun x:Nat×PSt=>[(81,vi x.1),(11,vi x.2.2.1),(12,vi x.2.2.2.1)]) (fun x=>(bk,ckO f i c.locals base x.2.2.2.2)::(r,.map (ZS keI (Yj x.2.1)) x.2.1.length)::σ)
   (fun x=>x.1<=c.path.length/\x.2.2.1<=x.1/\x.2.2.2.1<=x.1/\x.2.2.2.2<=c.locals.length/\TC f i G.env.length c (c.path.take x.1) q0=some x.2) (fun x=>c.path.length-x.1) (0,q0) xy (by rw[hq0];exact⟨by simp,by simp,by simp,by simp,rfl⟩) (by rw[hq0];exact⟨.refl _,.refl _,.refl _,trivial⟩) (by rw[hq0];simp only;rw[<- hck0,TQ];exact .refl _) ?_
  rintro⟨j,A,v,g,s⟩ ⟨i1,i2,i3,i4,i5⟩
  simp only at i1 i2 i3 i4 i5
  refine uW ?_
  refine⟨fun h1=>⟨by omega,h1,fun cc hc=>?_⟩,fun h1=>?_⟩
  ·rw[iF] at hc
   obtain⟨t,ht,rfl⟩:=Yi hc
   have hnx:TC f i G.env.length c (c.path.take (j+1)) q0=UI f i G.env.length c t (A,v,g,s):=by
    rw[jh,ht,jj,Oh,i5]
    simp only[jk,TC]
    cases UI f i G.env.length c t (A,v,g,s)<;>rfl
   have hno:UI f i G.env.length c t (A,v,g,s)=none->TC f i G.env.length c c.path q0=none:=fun h=>by
    have:=jl (j+1) c.path
    rw[<- this,Oh,hnx,h];rfl
   have gk:Store.get ((bk,ckO f i c.locals base s)::(r,.map (ZS keI (Yj A)) A.length)::σ) bk=some (ckO f i c.locals base s):=Ze _ _ _
   refine wR fun gr=>?_
   by_cases t3:t=3
   ·subst t3
    have hw3:IntKind.i64.wrap ((G.env.length:Int)+v)=((G.env.length+v:Nat):Int):=by rw[Zk xh xh];omega
    try simp only[go_sem,seval,hw3]
    refine Yv (l:=Yj A) (c:=A.length) fa0 fa1 gr ?_
    obtain⟨u1,u2⟩:=MN A ((G.env.length+v:Nat):Int)
    rw[u1,u2,Zo hkr,Yo]
    refine uW ?_
    rw[hw v xh,hw j xh]
    exact .mk (j+1,Vn A ((G.env.length+v:Nat):Int),v+1,g,s) ⟨by simp only;omega,by simp only;omega,by simp only;omega,i4,by simp only;rw[hnx];simp[UI]⟩ xS ⟨.refl _,.refl _,.refl _,trivial⟩ yS (.refl _)
   ·by_cases t4:t=4
    ·subst t4
     exact ol
    ·by_cases t5:t=5
     ·subst t5
      exact ol
     ·have k3:(t=3)=False:=iU t3
      have k4:(t=4)=False:=iU t4
      have k5:(t=5)=False:=iU t5
      try simp only[go_sem,seval,k3,k4,k5,iV]
      rw[hw j xh]
      exact .mk (j+1,A,v,g,s) ⟨by simp only;omega,by simp only;omega,by simp only;omega,i4,by simp only;rw[hnx];simp[UI, *]⟩ xS ⟨.refl _,.refl _,.refl _,trivial⟩ yS (.refl _)
  ·have hje:c.path.take j=c.path:=iW xh
   rw[hje] at i5
   rw[i5]
   simp only
   refine uW ?_
   refine wR fun gr=>?_
   refine⟨fun e1=>⟨fun e2=>?_,fun e2=>?_⟩,fun e1=>?_⟩
   ·try simp only[go_sem,seval,ckO,cG]
    have e1':v=c.vars.length:=by omega
    have e2':g=c.goals.length:=by omega
    refine⟨fun e3=>?_,fun e3=>?_⟩
    ·have e3':¬ s=c.locals.length:=by omega
     rw[jY e3']
     exact ud
    ·have e3':s=c.locals.length:=by omega
     rw[jy e1',jy e2',jy e3']
     try simp only[go_sem,seval,cF]
     refine(VY A r c.args .none 4 (.inl rfl) _ gr).only ?_
     refine uw ?_
     exact ud
   ·have e2':¬ g=c.goals.length:=by omega
    rw[jY e2']
    exact ud
   ·have e1':¬ v=c.vars.length:=by omega
    rw[jY e1']
    exact ud
end Go.Vx
end
section
namespace Go.Vx
open Go.Proofs
mutual
def tmN:Tm->Nat
 | .mk _ _ _ l=>YI l+1
def YI:List Tm->Nat
 | []=>0
 | t::r=>tmN t+YI r
end
mutual
def glN:Zi->Nat
 | .mk _ _ a _ l _ _ _=>YI a+Wl l+1
def Wl:List Zi->Nat
 | []=>0
 | t::r=>glN t+Wl r
end
def clN(c:Zr):Nat:=YI c.args+Wl c.goals+1
def Ug:List Zr->Nat
 | []=>0
 | c::r=>clN c+Ug r
def Vm:List FGroup->Nat
 | []=>0
 | g::r=>Ug g.alts+Vm r
def W9(f:Flat):Nat:=Vm f.groups
theorem Mf(l m:List Tm):YI (l++m)=YI l+YI m:=by
 induction l with
 | nil=>simp[YI]
 | cons a r ih=>simp only[kE,YI,ih];omega
theorem SL{l:List Tm}{i:Nat}{x:Tm}(h:l[i]?=some x):YI (l.take (i+1))=YI (l.take i)+tmN x:=by
 rw[jh,h,jj,Mf];simp[YI]
theorem OZ(l:List Tm)(i:Nat):YI (l.take i)<=YI l:=by
 have:=Mf (l.take i) (l.drop i)
 rw[jl] at this;omega
theorem Lc(l m:List Zi):Wl (l++m)=Wl l+Wl m:=by
 induction l with
 | nil=>simp[Wl]
 | cons a r ih=>simp only[kE,Wl,ih];omega
theorem OC{l:List Zi}{i:Nat}{x:Zi}(h:l[i]?=some x):Wl (l.take (i+1))=Wl (l.take i)+glN x:=by
 rw[jh,h,jj,Lc];simp[Wl]
theorem Ix(l:List Zi)(i:Nat):Wl (l.take i)<=Wl l:=by
 have:=Lc (l.take i) (l.drop i)
 rw[jl] at this;omega
theorem Lr(l m:List Zr):Ug (l++m)=Ug l+Ug m:=by
 induction l with
 | nil=>simp[Ug]
 | cons a r ih=>simp only[kE,Ug,ih];omega
theorem Gf{l:List Zr}{i:Nat}{x:Zr}(h:l[i]?=some x):Ug (l.take (i+1))=Ug (l.take i)+clN x:=by
 rw[jh,h,jj,Lr];simp[Ug]
theorem Bn(l:List Zr)(i:Nat):Ug (l.take i)<=Ug l:=by
 have:=Lr (l.take i) (l.drop i)
 rw[jl] at this;omega
theorem La(l m:List FGroup):Vm (l++m)=Vm l+Vm m:=by
 induction l with
 | nil=>simp[Vm]
 | cons a r ih=>simp only[kE,Vm,ih];omega
theorem HX{l:List FGroup}{i:Nat}{x:FGroup}(h:l[i]?=some x):Vm (l.take (i+1))=Vm (l.take i)+Ug x.alts:=by
 rw[jh,h,jj,La];simp[Vm]
theorem C3(l:List FGroup)(i:Nat):Vm (l.take i)<=Vm l:=by
 have:=La (l.take i) (l.drop i)
 rw[jl] at this;omega
def nV(n:Nat):AObj:=.cells [vi (n:Int)]
def adV(bn:Nat):nG:=.func (.func 101) #[] #[.pointer (some ⟨bn,0,none⟩)]
def wtV(b2 b3:Nat):nG:=.func (.func 103) #[] #[.pointer (some ⟨b2,0,none⟩),.pointer (some ⟨b3,0,none⟩)]
def wkV(b2 b3 b4:Nat):nG:=.func (.func 104) #[] #[.pointer (some ⟨b2,0,none⟩),.pointer (some ⟨b3,0,none⟩),.pointer (some ⟨b4,0,none⟩)]
def WH(bn:Nat)(σ:Store)(n k:Nat):ZE->Store->Prop:=fun r S' =>
 if n+k<=8000 then r=.ret (.tup [])/\S'=σ.set bn (nV (n+k)) else r=.pan (Y5 2)/\∃ m,S'=σ.set bn (nV m)
theorem DU(bn:Nat)(σ:Store)(n:Nat)(gn:σ.get bn=some (nV n))(hn:n<=8000):Zh nC 101 [.val (.pointer (some ⟨bn,0,none⟩))] σ (WH bn σ n 1):=by
 have gn':=gn
 unfold nV at gn'
 have hw:IntKind.i64.wrap ((n:Int)+1)=((n+1:Nat):Int):=Zk xh xh
 refine Zb [] [] Tryz.func101 rfl xy ?_;rw[Tryz.ntmps101,Tryz.results101]
 try simp only[go_sem,seval,gn',Zd gn',hw]
 refine VR (fun hm=>?_) (fun hm=>?_)
 ·refine uw ?_
  have:n+1<=8000:=by have:=of_decide_eq_true hm;omega
  refine .mk (.refl _) (.refl _) ?_
  unfold WH
  rw[gZ this]
  exact⟨rfl,rfl⟩
 ·refine uw ?_
  have:¬ n+1<=8000:=by have:=of_decide_eq_false hm;omega
  refine .mk (.refl _) ?_
  unfold WH
  rw[ig this]
  exact⟨rfl,n+1,rfl⟩
theorem aZ(bn b2 b3:Nat)(t:Tm):∀ (σ:Store) (n:Nat),σ.get bn=some (nV n)->σ.get b2=some (.cells [.val (adV bn)])->σ.get b3=some (.cells [.val (wtV b2 b3)])->n<=8000 ->
 Zh nC 103 [.agg t.emb,.val (.pointer (some ⟨b2,0,none⟩)),.val (.pointer (some ⟨b3,0,none⟩))] σ (WH bn σ n (tmN t)):=by
 induction t using ed with|h k nn s l ih=>?_
 intro σ n gn g2 g3 hn
 refine Zh.ok xy (fun hok=>?_)
 refine vw fun hlen=>?_
 rw[cF] at hlen
 clear hok
 have n2:b2≠bn:=fun e=>by rw[e,gn] at g2;cases g2
 have n3:b3≠bn:=fun e=>by rw[e,gn] at g3;cases g3
 simp only[cO]
 rw[tmN]
 have g2':=g2
 unfold adV at g2'
 have g3':=g3
 unfold wtV at g3'
 refine Zb [] [] Tryz.func103 rfl xy ?_;rw[Tryz.ntmps103,Tryz.results103]
 try simp only[go_sem,seval,g2']
 refine(DU bn σ n gn hn).mono ?_
 rintro w S' hw
 unfold WH at hw
 by_cases hlt:n+1<=8000
 ·rw[gZ hlt] at hw
  obtain⟨hw1,hw2⟩:=hw
  rw[hw1,hw2]
  try simp only[go_sem,seval,cF]
  obtain⟨T,hT⟩:∃ T,T=σ.set bn (nV (n+1)):=⟨_,rfl⟩
  rw[<- hT]
  have gT:T.get bn=some (nV (n+1)):=by rw[hT,Zd gn]
  have gT2:T.get b2=some (.cells [.val (adV bn)]):=by rw[hT,Za n2];exact g2
  have gT3:T.get b3=some (.cells [.val (wtV b2 b3)]):=by rw[hT,Za n3];exact g3
  have hTs:∀ y,Sub (σ.set bn y) (T.set bn y):=fun y=>by rw[hT,Zx];exact .refl _
  have htot:∀ m,m<=YI l->n+1+m<=n+(YI l+1):=fun m hm=>by omega
  refine Zp (mu:=[]) (dr:=[]) [5,11,12,13,14,15,16,17,18] (fun i:Nat=>[(11,vi i)]) (fun i=>T.set bn (nV (n+1+YI (l.take i)))) (fun i=>i<=l.length/\n+1+YI (l.take i)<=8000) (fun i=>l.length-i) 0 xy ⟨by omega,by simp only[iu,YI];omega⟩ ⟨.refl _,trivial⟩ yH ?_
  rintro i ⟨i1,i2⟩
  try simp only[go_sem,seval,cF,cF]
  refine⟨fun h1=>⟨by omega,h1,fun c hc=>?_⟩,fun h1=>?_⟩
  ·rw[iF] at hc
   obtain⟨x,hx,rfl⟩:=dQ hc
   have hst:=SL hx
   have hle:=OZ l (i+1)
   have hcall:=(ih _ (iG hx))
   generalize tmN x=nx at hcall hst
   obtain⟨k',n',s',l'⟩:=x
   simp only[cO] at hcall
   try simp only[go_sem,seval,cO]
   intro bt hbt
   have nbt:bt≠bn:=fun e=>by have:=Zj hbt;rw[e,Zd gT] at this;cases this
   have nb2:bt≠b2:=fun e=>by have:=Zj hbt;rw[e,Za n2,gT2] at this;cases this
   have nb3:bt≠b3:=fun e=>by have:=Zj hbt;rw[e,Za n3,gT3] at this;cases this
   try simp only[go_sem,seval,Zc nb3,Za n3,gT3,wtV]
   refine(hcall _ _ (by rw[Zc nbt,Zd gT]) (by rw[Zc nb2,Za n2];exact gT2) (by rw[Zc nb3,Za n3];exact gT3) i2).mono ?_
   rintro w S' hw
   unfold WH at hw
   rw[Zo nbt] at hw
   by_cases hlt2:n+1+YI (l.take i)+nx<=8000
   ·exact oB
   ·exact tY
  have hil:l.take i=l:=iW xh
  rw[hil] at i2 ⊢
  refine uw ?_
  refine .mk (.refl _) (hTs _) ?_
  unfold WH
  rw[gZ xh]
  exact⟨rfl,by rw[show n+(YI l+1)=n+1+YI l by omega]⟩
 ·exact uc
theorem ck(bn b2 b3 b4:Nat)(t:Zi):∀ (σ:Store) (n:Nat),σ.get bn=some (nV n)->σ.get b2=some (.cells [.val (adV bn)])->σ.get b3=some (.cells [.val (wtV b2 b3)])->σ.get b4=some (.cells [.val (wkV b2 b3 b4)])->n<=8000 ->
 Zh nC 104 [.agg t.emb,.val (.pointer (some ⟨b2,0,none⟩)),.val (.pointer (some ⟨b3,0,none⟩)),.val (.pointer (some ⟨b4,0,none⟩))] σ (WH bn σ n (glN t)):=by
 induction t using fC with|h k s a t l nn g e ih=>?_
 intro σ n gn g2 g3 g4 hn
 obtain⟨ts,tl⟩:=t
 refine Zh.ok xy (fun hok=>?_)
 have hlen:=(((hok _ ir).agg (c:=.list .none 9 (cY l)) xu).len)
 have hlea:=(((hok _ ir).agg (c:=.list .none 4 (cJ a)) xu).len)
 rw[cH] at hlen
 rw[cF] at hlea
 clear hok
 have n2:b2≠bn:=fun e=>by rw[e,gn] at g2;cases g2
 have n3:b3≠bn:=fun e=>by rw[e,gn] at g3;cases g3
 have n4:b4≠bn:=fun e=>by rw[e,gn] at g4;cases g4
 simp only[cV]
 rw[glN]
 have g2':=g2
 unfold adV at g2'
 refine Zb [] [] Tryz.func104 rfl xy ?_;rw[Tryz.ntmps104,Tryz.results104]
 try simp only[go_sem,seval,g2']
 refine(DU bn σ n gn hn).mono ?_
 rintro w S' hw
 unfold WH at hw
 by_cases hlt:n+1<=8000
 ·rw[gZ hlt] at hw
  obtain⟨hw1,hw2⟩:=hw
  rw[hw1,hw2]
  try simp only[go_sem,seval,cF]
  obtain⟨T,hT⟩:∃ T,T=σ.set bn (nV (n+1)):=⟨_,rfl⟩
  rw[<- hT]
  have gT:T.get bn=some (nV (n+1)):=by rw[hT,Zd gn]
  have gT2:T.get b2=some (.cells [.val (adV bn)]):=by rw[hT,Za n2];exact g2
  have gT3:T.get b3=some (.cells [.val (wtV b2 b3)]):=by rw[hT,Za n3];exact g3
  have gT4:T.get b4=some (.cells [.val (wkV b2 b3 b4)]):=by rw[hT,Za n4];exact g4
  have hTs:∀ y,Sub (σ.set bn y) (T.set bn y):=fun y=>by rw[hT,Zx];exact .refl _
  refine Zp (mu:=[]) (dr:=[]) [6,14,15,16,17,18,19,20,21] (fun i:Nat=>[(14,vi i)]) (fun i=>T.set bn (nV (n+1+YI (a.take i)))) (fun i=>i<=a.length/\n+1+YI (a.take i)<=8000) (fun i=>a.length-i) 0 xy ⟨by omega,by simp only[iu,YI];omega⟩ ⟨.refl _,trivial⟩ yH ?_
  rintro i ⟨i1,i2⟩
  try simp only[go_sem,seval,cF,cF]
  refine⟨fun h1=>⟨by omega,h1,fun c hc=>?_⟩,fun h1=>?_⟩
  ·rw[iF] at hc
   obtain⟨x,hx,rfl⟩:=dQ hc
   have hst:=SL hx
   have hle:=OZ a (i+1)
   have hcall:=(aZ bn b2 b3 x)
   generalize tmN x=nx at hcall hst
   obtain⟨k',n',s',l'⟩:=x
   simp only[cO] at hcall
   try simp only[go_sem,seval,cO]
   intro bt hbt
   have nbt:bt≠bn:=fun e=>by have:=Zj hbt;rw[e,Zd gT] at this;cases this
   have nb2:bt≠b2:=fun e=>by have:=Zj hbt;rw[e,Za n2,gT2] at this;cases this
   have nb3:bt≠b3:=fun e=>by have:=Zj hbt;rw[e,Za n3,gT3] at this;cases this
   try simp only[go_sem,seval,Zc nb3,Za n3,gT3,wtV]
   refine(hcall _ _ (by rw[Zc nbt,Zd gT]) (by rw[Zc nb2,Za n2];exact gT2) (by rw[Zc nb3,Za n3];exact gT3) i2).mono ?_
   rintro w S' hw
   unfold WH at hw
   rw[Zo nbt] at hw
   by_cases hlt2:n+1+YI (a.take i)+nx<=8000
   ·exact oB
   ·exact tY
  have hil:a.take i=a:=iW xh
  rw[hil] at i2 ⊢
  obtain⟨U,hU⟩:∃ U,U=T.set bn (nV (n+1+YI a)):=⟨_,rfl⟩
  rw[<- hU]
  have gU:U.get bn=some (nV (n+1+YI a)):=by rw[hU,Zd gT]
  have gU2:U.get b2=some (.cells [.val (adV bn)]):=by rw[hU,Za n2];exact gT2
  have gU3:U.get b3=some (.cells [.val (wtV b2 b3)]):=by rw[hU,Za n3];exact gT3
  have gU4:U.get b4=some (.cells [.val (wkV b2 b3 b4)]):=by rw[hU,Za n4];exact gT4
  have hUs:∀ y,Sub (σ.set bn y) (U.set bn y):=fun y=>by rw[hU,Zx];exact hTs y
  clear hT gT gT2 gT3 hTs hU
  try simp only[go_sem,seval,cH]
  refine Zp (mu:=[]) (dr:=[]) [8,25,26,27,28,29,30,31,32] (fun i:Nat=>[(25,vi i)]) (fun i=>U.set bn (nV (n+1+YI a+Wl (l.take i)))) (fun i=>i<=l.length/\n+1+YI a+Wl (l.take i)<=8000) (fun i=>l.length-i) 0 xy ⟨by omega,by simp only[iu,Wl];omega⟩ ⟨.refl _,trivial⟩ yI ?_
  rintro i ⟨i1,i2⟩
  try simp only[go_sem,seval,cH,cF]
  refine⟨fun h1=>⟨by omega,h1,fun c hc=>?_⟩,fun h1=>?_⟩
  ·rw[iF] at hc
   obtain⟨x,hx,rfl⟩:=dH hc
   have hst:=OC hx
   have hle:=Ix l (i+1)
   have hcall:=(ih _ (iG hx))
   generalize glN x=nx at hcall hst
   obtain⟨k',s',a',⟨ts',tl'⟩,l',n',g',e'⟩:=x
   simp only[cV] at hcall
   try simp only[go_sem,seval,cV]
   intro bt hbt
   have nbt:bt≠bn:=fun e=>by have:=Zj hbt;rw[e,Zd gU] at this;cases this
   have nb2:bt≠b2:=fun e=>by have:=Zj hbt;rw[e,Za n2,gU2] at this;cases this
   have nb3:bt≠b3:=fun e=>by have:=Zj hbt;rw[e,Za n3,gU3] at this;cases this
   have nb4:bt≠b4:=fun e=>by have:=Zj hbt;rw[e,Za n4,gU4] at this;cases this
   try simp only[go_sem,seval,Zc nb4,Za n4,gU4,wkV]
   refine(hcall _ _ (by rw[Zc nbt,Zd gU]) (by rw[Zc nb2,Za n2];exact gU2) (by rw[Zc nb3,Za n3];exact gU3) (by rw[Zc nb4,Za n4];exact gU4) i2).mono ?_
   rintro w S' hw
   unfold WH at hw
   rw[Zo nbt] at hw
   by_cases hlt2:n+1+YI a+Wl (l.take i)+nx<=8000
   ·exact oB
   ·exact ub
  have hil:l.take i=l:=iW xh
  rw[hil] at i2 ⊢
  refine uw ?_
  refine .mk (.refl _) (hUs _) ?_
  unfold WH
  rw[gZ xh]
  exact⟨rfl,by rw[show n+(YI a+Wl l+1)=n+1+YI a+Wl l by omega]⟩
 ·exact uc
theorem FL(f:Flat)(hf:Ok (.agg f.emb))(bn bf:Nat)(σ:Store)(gn:σ.get bn=some (nV 0))(gf:σ.get bf=some (.cells f.emb)) :
 Zh nC 100 [.val (.pointer (some ⟨bn,0,none⟩)),.val (.pointer (some ⟨bf,0,none⟩))] σ (WH bn σ 0 (W9 f)):=by
 have hgr:=hf.agg (c:=.list .none 2 (cX f.groups)) xV
 have hlg:=hgr.len
 rw[cL] at hlg
 have nfn:bf≠bn:=fun e=>by rw[e,gn] at gf;cases gf
 simp only[Flat.emb] at gf
 refine Zb [] [] Tryz.func100 rfl xy ?_;rw[Tryz.ntmps100,Tryz.results100]
 refine uw ?_
 intro b2 hb2
 refine uw ?_
 intro b3 hb3
 refine uw ?_
 intro b4 hb4
 refine uw ?_
 obtain⟨T,hT⟩:∃ T:Store,T=(b4,.cells [.val (wkV b2 b3 b4)])::(b3,.cells [.val (wtV b2 b3)])::(b2,.cells [.val (adV bn)])::σ:=⟨_,rfl⟩
 rw[show((b4,AObj.cells [.val (.func (.func 104) ⟨[]⟩ ⟨[.pointer (some ⟨b2,0,none⟩),.pointer (some ⟨b3,0,none⟩),.pointer (some ⟨b4,0,none⟩)]⟩)])::(b3,.cells [.val (.func (.func 103) ⟨[]⟩ ⟨[.pointer (some ⟨b2,0,none⟩),.pointer (some ⟨b3,0,none⟩)]⟩)])::(b2,.cells [.val (.func (.func 101) ⟨[]⟩ ⟨[.pointer (some ⟨bn,0,none⟩)]⟩)])::σ:Store)=T from hT.symm]
 have hne:∀ {b:Nat},Zm σ b->b≠bn:=fun h e=>by have:=Zj h;rw[e,gn] at this;cases this
 have hnf:∀ {b:Nat},Zm σ b->b≠bf:=fun h e=>by have:=Zj h;rw[e,gf] at this;cases this
 have n2:b2≠bn:=hne hb2
 have n3:b3≠bn:=hne hb3.2
 have n4:b4≠bn:=hne hb4.2.2
 have gT:T.get bn=some (nV 0):=by rw[hT,Zc n4,Zc n3,Zc n2];exact gn
 have gTf:T.get bf=some (.cells [.list .none 2 (cX f.groups),.list .none 1 (Zu f.rules)]):=by rw[hT,Zc (hnf hb4.2.2),Zc (hnf hb3.2),Zc (hnf hb2)];exact gf
 have gT4:T.get b4=some (.cells [.val (wkV b2 b3 b4)]):=by rw[hT,Ze]
 have gT3:T.get b3=some (.cells [.val (wtV b2 b3)]):=by rw[hT,Zc (iC hb4.1),Ze]
 have gT2:T.get b2=some (.cells [.val (adV bn)]):=by rw[hT,Zc (iC hb4.2.1),Zc (iC hb3.1),Ze]
 have hTs:∀ y,Sub (σ.set bn y) (T.set bn y):=fun y=>by rw[hT,Zo n4,Zo n3,Zo n2];exact(((Sub.refl _).skip _).skip _).skip _
 clear hT
 try simp only[go_sem,seval,gTf,cL]
 refine uI fun hw=>?_
 refine Zp (mu:=[]) (dr:=[]) [6,8,10,12,19,20,21,22,23,24,25,26,27,28,29,30,31,32,33,34,35,36,37,38,39,40,41,42,43,44,45,46,47,48,49,50,51,52,53,54,55] (fun i:Nat=>[(19,vi i)]) (fun i=>T.set bn (nV (Vm (f.groups.take i)))) (fun i=>i<=f.groups.length/\Vm (f.groups.take i)<=8000) (fun i=>f.groups.length-i) 0 xy ⟨by omega,by simp only[iu,Vm];omega⟩ ⟨.refl _,trivial⟩ (by simp only[iu,Vm];rw[Zw gT];exact .refl _) ?_
 rintro i0 ⟨p1,p2⟩
 try simp only[go_sem,seval,cL]
 refine⟨fun h1=>⟨by omega,h1,fun c hc=>?_⟩,fun h1=>?_⟩
 ·rw[iF] at hc
  obtain⟨G,hG,rfl⟩:=dS hc
  have hGst:=HX hG
  have hGle:=C3 f.groups (i0+1)
  have hGo:=hgr.mem (e:=G.emb) (iG hc)
  have hlas:=(hGo.agg (c:=.list .none 7 (dc G.alts)) yg)
  have hla:=hlas.len
  rw[dh] at hla
  try simp only[go_sem,seval,FGroup.emb]
  intro b6 hb6
  have n6:b6≠bn:=fun e=>by have:=Zj hb6;rw[e,Zd gT] at this;cases this
  have n62:b6≠b2:=fun e=>by have:=Zj hb6;rw[e,Za n2,gT2] at this;cases this
  have n63:b6≠b3:=fun e=>by have:=Zj hb6;rw[e,Za n3,gT3] at this;cases this
  have n64:b6≠b4:=fun e=>by have:=Zj hb6;rw[e,Za n4,gT4] at this;cases this
  refine wN ?_
  refine Zp (mu:=[]) (dr:=[]) [8,10,12,26,27,28,29,30,31,32,33,34,35,36,37,38,39,40,41,42,43,44,45,46,47,48,49,50,51,52,53,54] (fun i:Nat=>[(26,vi i)]) (fun i=>(b6,.cells [.list .none 2 (cI G.env),.list .none 7 (dc G.alts)])::T.set bn (nV (Vm (f.groups.take i0)+Ug (G.alts.take i)))) (fun i=>i<=G.alts.length/\Vm (f.groups.take i0)+Ug (G.alts.take i)<=8000) (fun i=>G.alts.length-i) 0 xy ⟨by omega,by simp only[iu,Ug];omega⟩ ⟨.refl _,trivial⟩ (by simp only[iu,Ug,iw];exact .refl _) ?_
  rintro j0 ⟨q1,q2⟩
  refine wN ?_
  refine⟨fun h1=>⟨by omega,h1,fun c hc=>?_⟩,fun h1=>?_⟩
  ·rw[iF] at hc
   obtain⟨C,hC,rfl⟩:=eA hc
   have hCst:=Gf hC
   have hCle:=Bn G.alts (j0+1)
   have hCo:=hlas.mem (e:=C.emb) (iG hc)
   have hlen1:=(hCo.agg (c:=.list .none 4 (cJ C.args)) xK).len
   have hlen2:=(hCo.agg (c:=.list .none 9 (cY C.goals)) xK).len
   rw[cF] at hlen1
   rw[cH] at hlen2
   try simp only[go_sem,seval,Zr.emb]
   intro b8 hb8
   refine uw ?_
   obtain⟨N,hN⟩:∃ N,N=Vm (f.groups.take i0)+Ug (G.alts.take j0):=⟨_,rfl⟩
   rw[<- hN] at q2 hb8 ⊢
   have n8:b8≠bn:=fun e=>by have:=Zj hb8.2;rw[e,Zd gT] at this;cases this
   have n82:b8≠b2:=fun e=>by have:=Zj hb8.2;rw[e,Za n2,gT2] at this;cases this
   have n83:b8≠b3:=fun e=>by have:=Zj hb8.2;rw[e,Za n3,gT3] at this;cases this
   have n84:b8≠b4:=fun e=>by have:=Zj hb8.2;rw[e,Za n4,gT4] at this;cases this
   obtain⟨V,hV⟩:∃ V:Store,V=(b8,.cells [.list .none 2 (cI C.vars),.list .none 2 (cI C.locals),.list .none 1 (Zu C.path),vs C.name,.list .none 4 (cJ C.args),.list .none 9 (cY C.goals),.list .none 1 (Uv C.lasts)])::(b6,.cells [.list .none 2 (cI G.env),.list .none 7 (dc G.alts)])::T.set bn (nV N):=⟨_,rfl⟩
   rw[<- hV]
   have gV:V.get bn=some (nV N):=by rw[hV,Zc n8,Zc n6,Zd gT]
   have gV2:V.get b2=some (.cells [.val (adV bn)]):=by rw[hV,Zc n82,Zc n62,Za n2];exact gT2
   have gV3:V.get b3=some (.cells [.val (wtV b2 b3)]):=by rw[hV,Zc n83,Zc n63,Za n3];exact gT3
   have gV4:V.get b4=some (.cells [.val (wkV b2 b3 b4)]):=by rw[hV,Zc n84,Zc n64,Za n4];exact gT4
   have gV8:V.get b8=some (.cells [.list .none 2 (cI C.vars),.list .none 2 (cI C.locals),.list .none 1 (Zu C.path),vs C.name,.list .none 4 (cJ C.args),.list .none 9 (cY C.goals),.list .none 1 (Uv C.lasts)]):=by rw[hV,Ze]
   have hVb:∀ y,Sub ((b6,.cells [.list .none 2 (cI G.env),.list .none 7 (dc G.alts)])::T.set bn y) (V.set bn y):=fun y=>by rw[hV,Zo n8,Zo n6,Zx];exact(Sub.refl _).skip _
   have hVs:∀ y,Sub (σ.set bn y) (V.set bn y):=fun y=>by rw[hV,Zo n8,Zo n6,Zx];exact((hTs y).skip _).skip _
   have hTot:N+clN C<=W9 f:=by
    rw[hN,jV,<- hCst]
    have:W9 f=Vm f.groups:=rfl
    omega
   have hcl:clN C=YI C.args+Wl C.goals+1:=rfl
   try simp only[go_sem,seval,gV2,adV]
   refine(DU bn V N gV q2).mono ?_
   rintro w S' hw'
   unfold WH at hw'
   by_cases hlt:N+1<=8000
   ·rw[gZ hlt] at hw'
    obtain⟨hw1,hw2⟩:=hw'
    rw[hw1,hw2]
    obtain⟨W,hW⟩:∃ W,W=V.set bn (nV (N+1)):=⟨_,rfl⟩
    rw[<- hW]
    have gW:W.get bn=some (nV (N+1)):=by rw[hW,Zd gV]
    have gW2:W.get b2=some (.cells [.val (adV bn)]):=by rw[hW,Za n2];exact gV2
    have gW3:W.get b3=some (.cells [.val (wtV b2 b3)]):=by rw[hW,Za n3];exact gV3
    have gW4:W.get b4=some (.cells [.val (wkV b2 b3 b4)]):=by rw[hW,Za n4];exact gV4
    have gW8:=(Za (y:=nV (N+1)) n8).trans gV8
    rw[<- hW] at gW8
    have hWs:∀ y,Sub (σ.set bn y) (W.set bn y):=fun y=>by rw[hW,Zx];exact hVs y
    have hWb:∀ y,Sub ((b6,.cells [.list .none 2 (cI G.env),.list .none 7 (dc G.alts)])::T.set bn y) (W.set bn y):=fun y=>by rw[hW,Zx];exact hVb y
    try simp only[go_sem,seval,gW8,cF]
    refine Zp (mu:=[]) (dr:=[]) [10,35,36,37,38,39,40,41,42] (fun i:Nat=>[(35,vi i)]) (fun i=>W.set bn (nV (N+1+YI (C.args.take i)))) (fun i=>i<=C.args.length/\N+1+YI (C.args.take i)<=8000) (fun i=>C.args.length-i) 0 xy ⟨by omega,by simp only[iu,YI];omega⟩ ⟨.refl _,trivial⟩ (by simp only[iu,YI,iw];rw[Zw gW];exact .refl _) ?_
    rintro i ⟨i1,i2⟩
    try simp only[go_sem,seval,cF,Za n8,gW8,cH]
    refine⟨fun h1=>⟨by omega,h1,fun c hc=>?_⟩,fun h1=>?_⟩
    ·rw[iF] at hc
     obtain⟨x,hx,rfl⟩:=dQ hc
     have hst:=SL hx
     have hle:=OZ C.args (i+1)
     have hcall:=(aZ bn b2 b3 x)
     generalize tmN x=nx at hcall hst
     obtain⟨k',n',s',l'⟩:=x
     simp only[cO] at hcall
     try simp only[go_sem,seval,cO]
     intro bt hbt
     have nbt:bt≠bn:=fun e=>by have:=Zj hbt;rw[e,Zd gW] at this;cases this
     have nb2:bt≠b2:=fun e=>by have:=Zj hbt;rw[e,Za n2,gW2] at this;cases this
     have nb3:bt≠b3:=fun e=>by have:=Zj hbt;rw[e,Za n3,gW3] at this;cases this
     try simp only[go_sem,seval,Zc nb3,Za n3,gW3,wtV]
     refine(hcall _ _ (by rw[Zc nbt,Zd gW]) (by rw[Zc nb2,Za n2];exact gW2) (by rw[Zc nb3,Za n3];exact gW3) i2).mono ?_
     rintro w S' hw
     unfold WH at hw
     rw[Zo nbt] at hw
     by_cases hlt2:N+1+YI (C.args.take i)+nx<=8000
     ·exact oB
     ·rw[ig hlt2] at hw
      obtain⟨hw1,m,hw2⟩:=hw
      rw[hw1,hw2,Zo nbt,Zx]
      refine uw ?_
      refine .mk ((hWs _).skip _) ?_
      exact pK
    have hil:C.args.take i=C.args:=iW xh
    rw[hil] at i2 ⊢
    obtain⟨U,hU⟩:∃ U,U=W.set bn (nV (N+1+YI C.args)):=⟨_,rfl⟩
    rw[<- hU]
    have gU:U.get bn=some (nV (N+1+YI C.args)):=by rw[hU,Zd gW]
    have gU2:U.get b2=some (.cells [.val (adV bn)]):=by rw[hU,Za n2];exact gW2
    have gU3:U.get b3=some (.cells [.val (wtV b2 b3)]):=by rw[hU,Za n3];exact gW3
    have gU4:U.get b4=some (.cells [.val (wkV b2 b3 b4)]):=by rw[hU,Za n4];exact gW4
    have gU8:=(Za (y:=nV (N+1+YI C.args)) n8).trans gW8
    rw[<- hU] at gU8
    have hUs:∀ y,Sub (σ.set bn y) (U.set bn y):=fun y=>by rw[hU,Zx];exact hWs y
    have hUb:∀ y,Sub ((b6,.cells [.list .none 2 (cI G.env),.list .none 7 (dc G.alts)])::T.set bn y) (U.set bn y):=fun y=>by rw[hU,Zx];exact hWb y
    try simp only[go_sem,seval,gU8,cH]
    refine Zp (mu:=[]) (dr:=[]) [12,46,47,48,49,50,51,52,53] (fun i:Nat=>[(46,vi i)]) (fun i=>U.set bn (nV (N+1+YI C.args+Wl (C.goals.take i)))) (fun i=>i<=C.goals.length/\N+1+YI C.args+Wl (C.goals.take i)<=8000) (fun i=>C.goals.length-i) 0 xy ⟨by omega,by simp only[iu,Wl];omega⟩ ⟨.refl _,trivial⟩ yI ?_
    rintro i ⟨i1,i2⟩
    try simp only[go_sem,seval,cH,Za n8,gU8]
    refine⟨fun h1=>⟨by omega,h1,fun c hc=>?_⟩,fun h1=>?_⟩
    ·rw[iF] at hc
     obtain⟨x,hx,rfl⟩:=dH hc
     have hst:=OC hx
     have hle:=Ix C.goals (i+1)
     have hcall:=(ck bn b2 b3 b4 x)
     generalize glN x=nx at hcall hst
     obtain⟨k',s',a',⟨ts',tl'⟩,l',n',g',e'⟩:=x
     simp only[cV] at hcall
     try simp only[go_sem,seval,cV]
     intro bt hbt
     have nbt:bt≠bn:=fun e=>by have:=Zj hbt;rw[e,Zd gU] at this;cases this
     have nb2:bt≠b2:=fun e=>by have:=Zj hbt;rw[e,Za n2,gU2] at this;cases this
     have nb3:bt≠b3:=fun e=>by have:=Zj hbt;rw[e,Za n3,gU3] at this;cases this
     have nb4:bt≠b4:=fun e=>by have:=Zj hbt;rw[e,Za n4,gU4] at this;cases this
     try simp only[go_sem,seval,Zc nb4,Za n4,gU4,wkV]
     refine(hcall _ _ (by rw[Zc nbt,Zd gU]) (by rw[Zc nb2,Za n2];exact gU2) (by rw[Zc nb3,Za n3];exact gU3) (by rw[Zc nb4,Za n4];exact gU4) i2).mono ?_
     rintro w S' hw
     unfold WH at hw
     rw[Zo nbt] at hw
     by_cases hlt2:N+1+YI C.args+Wl (C.goals.take i)+nx<=8000
     ·exact oB
     ·exact ub
    have hil:C.goals.take i=C.goals:=iW xh
    rw[hil] at i2 ⊢
    refine uw ?_
    rw[hw j0 xh]
    have hval:N+1+YI C.args+Wl C.goals=Vm (f.groups.take i0)+Ug (G.alts.take (j0+1)):=by rw[hCst];omega
    refine .mk (j0+1) ⟨by omega,by omega⟩ xh ⟨.refl _,trivial⟩ yV ?_
    try simp only
    rw[<- hval]
    exact hUb _
   ·rw[ig hlt] at hw'
    obtain⟨hw1,m,hw2⟩:=hw'
    rw[hw1,hw2]
    refine uw ?_
    refine .mk (hVs _) ?_
    exact pK
  ·have hil:G.alts.take j0=G.alts:=iW xh
   rw[hil] at q2 ⊢
   refine uw ?_
   rw[hw i0 xh]
   refine .mk (i0+1) ⟨by omega,by omega⟩ xh ⟨.refl _,trivial⟩ yV ?_
   try simp only
   rw[hGst]
   exact(Sub.refl _).skip _
 ·have hil:f.groups.take i0=f.groups:=iW xh
  rw[hil] at p2 ⊢
  refine uw ?_
  refine .mk (.refl _) (hTs _) ?_
  unfold WH
  have:W9 f=Vm f.groups:=rfl
  rw[gZ xh,jG]
  exact⟨rfl,rfl⟩
def Ra(f:Flat):Int:=if W9 f<=8000 then(W9 f:Int) else 8001
theorem CB(f:Flat):Pur nC 61 [.agg f.emb] (vi (Ra f)):=by
 intro σ
 refine Zh.ok xy (fun hok=>?_)
 have hf:=hok _ ir
 clear hok
 have hw:=FL f hf
 unfold Ra
 generalize W9 f=N at hw ⊢
 simp only[Flat.emb] at hw ⊢
 refine Zb [1] [] Tryz.func61 rfl xy ?_;rw[Tryz.ntmps61,Tryz.results61]
 refine uw ?_
 intro b1 hb1
 refine uw ?_
 intro b3 hb3
 refine uw ?_
 have n31:b3≠b1:=iC hb3.1
 refine Jc _ _ _ (fun b hb=>?_)
 rw[Z4]
 have nb3:b≠b3:=iC hb.1
 have nb1:b≠b1:=iC hb.2.1
 refine(hw b3 b1 _ (by rw[Zc nb3,Ze];rfl) (by rw[Zc nb1,Zc n31,Ze])).mono ?_
 rintro r σ' h
 unfold WH at h
 rw[jG] at h
 by_cases hN:N<=8000
 ·rw[gZ hN] at h ⊢
  obtain⟨h1,h2⟩:=h
  refine⟨_,by rw[h2,Zo nb3,Yo],?_⟩
  rw[h1]
  try simp only[go_sem,seval,nV]
  exact oS
 ·rw[ig hN] at h ⊢
  obtain⟨h1,m,h2⟩:=h
  refine⟨_,by rw[h2,Zo nb3,Yo],?_⟩
  rw[h1]
  refine⟨2,rfl,?_⟩
  try simp only[go_sem,seval,nV]
  exact oS
end Go.Vx
end
