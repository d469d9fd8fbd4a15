/- A part of the proof of clausalSpinesProved. -/
import Derived.Test.YtllgjklcpieanaaGreatDoorR21
import Derived.Test.YtllgjklcpieanaaGreatDoorR11
import Derived.Test.YtllgjklcpieanaaGreatDoorR14
import Derived.Test.YtllgjklcpieanaaGreatDoorR17
set_option linter.unusedVariables false
set_option linter.unusedSimpArgs false
set_option maxRecDepth 100000
section
namespace Go.Vx
open Go.Proofs Go.RowKit
def Uz:List Ro->Int->nM Int
 | [],n=>some n
 | t::r,n=>if n-prt t n<0 then none else Uz r (n-prt t n)
theorem Mi(l m:List Ro):∀ n,Uz (l++m) n=(Uz l n).bind (Uz m):=by
 induction l with
 | nil=>intro n;rfl
 | cons a r ih =>
   intro n
   simp only[kE,Uz]
   split
   ·rfl
   ·exact ih _
def UM(l:List Ro):Bool:=(Uz l 4000).isNone
structure MI (σ0:Store) (l D b2 b3 pb:Nat) (p:Pg) (r:Loop) (left:Int) (v:Bool) (S:Store):Prop where
 gl:S.get l=some (.raw (.loop r))
 gD:S.get D=some (.raw (.deferred (some [])))
 g2:S.get b2=some (.cells [vb v])
 g3:S.get b3=some (.cells [vi left])
 gp:Y3 pb p S
 sub:Has σ0 S
theorem MI.cons{σ0:Store}{l D b2 b3 pb:Nat}{p:Pg}{r:Loop}{left:Int}{v:Bool}{S:Store}(h:MI σ0 l D b2 b3 pb p r left v S){k:Nat}(hk:Zm S k)(x:AObj):MI σ0 l D b2 b3 pb p r left v ((k,x)::S) :=
 ⟨by rw[Zg hk (by rw[h.gl];rfl)];exact h.gl,by rw[Zg hk (by rw[h.gD];rfl)];exact h.gD,by rw[Zg hk (by rw[h.g2];rfl)];exact h.g2,
  by rw[Zg hk (by rw[h.g3];rfl)];exact h.g3,by show Store.get _ _=_;rw[Zg hk (by rw[h.gp];rfl)];exact h.gp,h.sub.cons _⟩
theorem Y2.set{own:List Nat}{S:Store}{k:Nat}(hk:k∈own)(x:AObj):Y2 own S (S.set k x):=fun j y hj hn=>by
 rw[Za (fun e=>hn (by rw[e];exact hk))];exact hj
section
variable {σ0:Store} {l D b2 b3 pb:Nat} {p:Pg} {r:Loop} {left:Int} {v:Bool} {S:Store}
theorem MI.ne{a b:Nat}{x y:AObj}(h:S.get a=some x)(k:S.get b=some y)(hxy:x≠y):a≠b:=fun e=>by rw[e,k] at h;injection h with h;exact hxy h.symm
theorem MI.set3(h:MI σ0 l D b2 b3 pb p r left v S)(f:Zm σ0 b3)(n:Int):MI σ0 l D b2 b3 pb p r n v (S.set b3 (.cells [vi n])) :=
 ⟨by rw[Za (MI.ne h.gl h.g3 xf)];exact h.gl,by rw[Za (MI.ne h.gD h.g3 xf)];exact h.gD,by rw[Za (MI.ne h.g2 h.g3 xf)];exact h.g2,Zd h.g3,
  by show Store.get _ _=_;rw[Za (MI.ne h.gp h.g3 (by simp[Pg.emb]))];exact h.gp,h.sub.set f _⟩
theorem MI.set2(h:MI σ0 l D b2 b3 pb p r left v S)(f:Zm σ0 b2)(n:Bool):MI σ0 l D b2 b3 pb p r left n (S.set b2 (.cells [vb n])) :=
 ⟨by rw[Za (MI.ne h.gl h.g2 xf)];exact h.gl,by rw[Za (MI.ne h.gD h.g2 xf)];exact h.gD,Zd h.g2,by rw[Za (MI.ne h.g3 h.g2 xf)];exact h.g3,
  by show Store.get _ _=_;rw[Za (MI.ne h.gp h.g2 (by simp[Pg.emb]))];exact h.gp,h.sub.set f _⟩
theorem MI.setl(h:MI σ0 l D b2 b3 pb p r left v S)(f:Zm σ0 l)(r':Loop):MI σ0 l D b2 b3 pb p r' left v (S.set l (.raw (.loop r'))) :=
 ⟨Zd h.gl,by rw[Za (MI.ne h.gD h.gl xf)];exact h.gD,by rw[Za (MI.ne h.g2 h.gl xf)];exact h.g2,by rw[Za (MI.ne h.g3 h.gl xf)];exact h.g3,
  by show Store.get _ _=_;rw[Za (MI.ne h.gp h.gl xf)];exact h.gp,h.sub.set f _⟩
end
def B5(σ:Store)(l D b2 b3 b:Nat)(p:Pg)(r:Loop)(q:List Ty)(a:Ty)(S:Store):ZE->Store->Prop:=fun res S'=>Y2 [l,b2,b3] S S' /\
 ((res=.ret (vb true)/\∃ n,Uz ((q++[a]).map Ty.shape) 4000=some n/\0<=n/\n<=4000/\MI σ l D b2 b3 b p r n false S') \/
  (res=.ret (vb false)/\Uz ((q++[a]).map Ty.shape) 4000=none/\∃ n,MI σ l D b2 b3 b p { r with state:=.done,pending:=some .ret } n true S'))
theorem Xm(tmps:nN nG)(i:Nat):eV tmps i=.val (tmps.getD i undef):=rfl
theorem FO(g:nL)(b:Nat)(p:Pg)(L:List Ty)(hIt:BW nC g [.pointer (some ⟨b,0,none⟩)] (Y3 b p) tyA L)(σ:Store)(hp:Y3 b p σ) :
 Zh nC 237 [.val (.func (.func g) #[] #[.pointer (some ⟨b,0,none⟩)])] σ (ZP (vb (UM (L.map Ty.shape))) σ):=by
 refine Zh.nodup xy (fun hnd=>?_)
 refine Un Tryz.func237 rfl xy ?_
 rw[Tryz.ntmps237,Tryz.results237]
 refine uA ?_
 refine uw ?_
 intro b2 hb2
 simp only[ZW]
 refine uA ?_
 refine uw ?_
 intro b3 hb3
 refine uw ?_
 simp only[ZW]
 refine vD ?_
 refine uw ?_
 simp only[ZW]
 refine .block (.range (by rfl) g #[.pointer (some ⟨b,0,none⟩)] yy ?_)
 intro D l r hD hl hst hpe hpa has hbo hrs htm
 have h2t:=htm 2 _ xj yB
 have h3t:=htm 3 _ xj yB
 have f2:Zm σ b2:=hb2
 have f3:Zm σ b3:=hb3.2
 have fD:Zm σ D:=hD.2.2
 have fl:Zm σ l:=hl.2.2.2
 have n32:b3≠b2:=hb3.1.symm
 have nD3:D≠b3:=hD.1.symm
 have nD2:D≠b2:=hD.2.1.symm
 have nlD:l≠D:=hl.1.symm
 have nl3:l≠b3:=hl.2.1.symm
 have nl2:l≠b2:=hl.2.2.1.symm
 have npl:b≠l:=fun e=>by have:=Zj fl;rw[<- e,hp] at this;cases this
 have np2:b≠b2:=fun e=>by have:=Zj f2;rw[<- e,hp] at this;cases this
 have np3:b≠b3:=fun e=>by have:=Zj f3;rw[<- e,hp] at this;cases this
 have npD:b≠D:=fun e=>by have:=Zj fD;rw[<- e,hp] at this;cases this
 have e32:=iC n32
 have eD3:=iC nD3
 have eD2:=iC nD2
 have elD:=iC nlD
 have el3:=iC nl3
 have el2:=iC nl2
 have epl:=iC npl
 have ep2:=iC np2
 have ep3:=iC np3
 have epD:=iC npD
 refine(hIt _ [l,b2,b3] (fun q S=>∃ n,Uz (q.map Ty.shape) 4000=some n/\0<=n/\n<=4000/\MI σ l D b2 b3 b p r n false S)
  (fun q S=>Uz (q.map Ty.shape) 4000=none/\∃ n,MI σ l D b2 b3 b p { r with state:=.done,pending:=some .ret } n true S) _ ⟨?_,?_,?_⟩ (fun q S ⟨n,_,_,_,h⟩=>h.gp) ⟨4000,rfl,by omega,by omega,?_⟩).mono ?_
 ·rintro q S ⟨n,_,_,_,h⟩ k hk
  simp only[lD,mW,List.not_mem_nil,or_false] at hk
  rcases hk with rfl|rfl|rfl
  ·rw[h.gl];rfl
  ·rw[h.g2];rfl
  ·rw[h.g3];rfl
 ·rintro q S k x ⟨n,h1,h2,h3,h⟩ hk
  exact⟨n,h1,h2,h3,h.cons hk x⟩
 ·rintro q a S ⟨n,h1,h2,h3,h⟩
  refine .inr ⟨l,_,rfl,rfl,?_⟩
  show WN _ _ _ _ (B5 σ l D b2 b3 b p r q a S)
  refine Tf h.gl hpa (by rw[hrs];decide) hst hpe ?_
  rw[hrs,has]
  have hpc:=FE a n h2 h3
  have hbd:=Wg a.shape n h2
  have hsn:Uz ((q++[a]).map Ty.shape) 4000=if n-prt a.shape n<0 then none else some (n-prt a.shape n):=by
   rw[jv,Mi,h1];rfl
  generalize prt a.shape n=m at hpc hbd hsn
  generalize hK:B5 σ l D b2 b3 b p r q a S=KK
  obtain⟨xa,xl⟩:=a
  simp only[tyA,cQ] at hpc ⊢
  refine uJ ?_
  try simp only[go_sem,seval,Xm,h2t,h3t]
  intro b5 hb5
  try simp only[go_sem,seval,Xm,h2t,h3t]
  have h5:=h.cons hb5 (.cells [vs xa,.list .none 2 (cI xl)])
  refine⟨h5.gl,?_⟩
  have n5l:b5≠l:=fun e=>by have:=Zj hb5;rw[e,h.gl] at this;cases this
  have n52:b5≠b2:=fun e=>by have:=Zj hb5;rw[e,h.g2] at this;cases this
  have n53:b5≠b3:=fun e=>by have:=Zj hb5;rw[e,h.g3] at this;cases this
  have hy:=h5.setl fl { r with state:=.busy }
  have gk:Y2 [l,b2,b3] S (Store.set ((b5,AObj.cells [vs xa,.list .none 2 (cI xl)])::S) l (.raw (.loop { r with state:=.busy }))):=by
   intro k x hk hn
   rw[Za (fun e=>hn (by rw[e];simp)),Zg hb5 xC]
   exact hk
  have g5:Store.get (Store.set ((b5,AObj.cells [vs xa,.list .none 2 (cI xl)])::S) l (.raw (.loop { r with state:=.busy }))) b5=some (.cells [vs xa,.list .none 2 (cI xl)]):=by rw[Za n5l,Ze]
  generalize Store.set ((b5,AObj.cells [vs xa,.list .none 2 (cI xl)])::S) l (.raw (.loop { r with state:=.busy }))=Sy at hy g5 gk ⊢
  have g3:=hy.g3
  have g2:=hy.g2
  rw[hrs,hbo]
  refine Zn (mu:=[]) (dr:=[(4,4,0)]) xy _ xy _ _ _ ?_
  have w1:IntKind.i64.wrap (n-m)=n-m:=Zk xh xh
  try simp only[go_sem,seval,Xm,h2t,h3t,g5,g3]
  refine Pur.head hpc ?_
  by_cases hlt:n-m<0
  ·have x1:=iS hlt
   try simp only[go_sem,seval,Xm,h2t,h3t,g5,g3,g2,w1,x1,iT,n32,e32,jX]
   have A:=(hy.set3 f3 (n-m)).set2 f2 true
   rw[<- hK]
   refine⟨by rw[ig nl2,ig nl3];exact hy.gl,((gk.trans (.set xf _)).trans (.set xf _)).trans (.set xf _),.inr ⟨rfl,by rw[hsn,gZ hlt],n-m,A.setl fl _⟩⟩
  ·have x1:=iU hlt
   try simp only[go_sem,seval,Xm,h2t,h3t,g5,g3,g2,w1,x1,iV,n32,e32,jX]
   have A:=hy.set3 f3 (n-m)
   rw[<- hK]
   refine⟨by rw[ig nl3];exact hy.gl,(gk.trans (.set xf _)).trans (.set xf _),.inl ⟨rfl,n-m,by rw[hsn,ig hlt],by omega,by omega,A.setl fl _⟩⟩
 ·exact⟨Ze _ _ _,by simp[Store.get,nlD],by simp[Store.get,nl2,nD2,n32],by simp[Store.get,nl3,nD3],by simp only[Y3,Store.get,epl,epD,ep3,ep2,lJ];exact hp,(((Has.refl σ).cons _).cons _ |>.cons _).cons _⟩
 ·rintro res S' ⟨rfl,⟨n,h1,_,_,h⟩|⟨p',s',hL,hT,n,h⟩⟩
  ·have hv:UM (L.map Ty.shape)=false:=by unfold UM;rw[h1];rfl
   rw[hv]
   refine⟨r,h.gl,by rw[hst];decide,?_⟩
   have h2:=h.setl fl { r with state:=.exhausted }
   generalize S'.set l (.raw (.loop { r with state:=.exhausted }))=S2 at h2 ⊢
   rw[hpe]
   simp only[TR,Ww,ZW]
   refine uC ?_
   have q2:=h2.g2
   try simp only[go_sem,seval,q2]
   refine .inl ⟨D,rfl,by rw[Za nD2];exact h2.gD,?_⟩
   show Xf _ _ _ _ _
   try simp only[go_sem,seval,q2,e32,n32,eD2,nD2,jX]
   exact .mk (.refl _) ((((h2.sub.set f2 _).set fD _).sub hnd)) ⟨rfl,rfl⟩
  ·have hv:UM (L.map Ty.shape)=true:=by unfold UM;rw[hL,jv,Mi,hT];rfl
   rw[hv]
   refine⟨_,h.gl,by simp,?_⟩
   have h2:=h.setl fl { r with state:=.exhausted,pending:=some .ret }
   generalize S'.set l (.raw (.loop { r with state:=.exhausted,pending:=some .ret }))=S2 at h2 ⊢
   simp only[Ox,Ww,ZW]
   refine .inl ⟨D,rfl,h2.gD,?_⟩
   have q2:=h2.g2
   show Xf _ _ _ _ _
   try simp only[go_sem,seval,q2,e32,n32,eD2,nD2,jX]
   exact .mk (.refl _) (((h2.sub.set fD _).sub hnd)) ⟨rfl,rfl⟩
open Go.Proofs Go.RowKit
theorem Zh.only'{P:nE}{k:nL}{args:List AV}{v:AV}{σ:Store}{K:ZE->Store->Prop}(h:Zh P k args σ (ZP v σ))(hk:K (.ret v) σ):Zh P k args σ K :=
 h.mono fun r σ' ⟨e,e'⟩=>by rw[e,e'];exact hk
theorem HN(d:Pd)(h:d.types.length<=137438953472):Pur nC 233 [.agg d.emb] (vb (decide (8<d.types.length))):=by
 intro σ
 obtain⟨s,t,k,m⟩:=d
 simp only[Pd.emb] at h ⊢
 have e:decide (8<t.length)=decide ((t.length:Int) > 8):=decide_eq_decide.2 xh
 rw[e]
 refine Zb [] [] Tryz.func233 rfl xy ?_;rw[Tryz.ntmps233,Tryz.results233]
 refine wq ?_
 exact Zs xf
theorem HM(q:Qy)(h:q.vars.length<=137438953472):Pur nC 235 [.agg q.emb] (vb (decide (8<q.vars.length))):=by
 intro σ
 obtain⟨s,v,⟨k,n,a,⟨ts,tl⟩,l⟩⟩:=q
 simp only[dX] at h ⊢
 have e:decide (8<v.length)=decide ((v.length:Int) > 8):=decide_eq_decide.2 xh
 rw[e]
 refine Zb [] [] Tryz.func235 rfl xy ?_;rw[Tryz.ntmps235,Tryz.results235]
 try simp only[go_sem,seval,dw]
 exact Zs xf
theorem HP(q:Qy):Pur nC 242 [.agg q.emb] (vb (decide (100<lvl q.form.shape 100))):=by
 intro σ
 obtain⟨s,v,f⟩:=q
 have hf:=Ot f 100 xh xh
 generalize lvl f.shape 100=n at hf
 obtain⟨k,n',a,⟨ts,tl⟩,l⟩:=f
 simp only[dX,cM] at hf ⊢
 refine Zb [] [] Tryz.func242 rfl xy ?_;rw[Tryz.ntmps242,Tryz.results242]
 refine uw ?_
 refine hf.use ?_
 exact oP
theorem TW(p:Pg)(σ:Store)(R:ZE->Store->Prop)(h:∀ b,Zm σ b->R (.ret (.val (.func (.func 271) #[] #[.pointer (some ⟨b,0,none⟩)]))) ((b,.cells p.emb)::σ)):Zh nC 238 [.agg p.emb] σ R:=by
 obtain⟨ts,cs,ds,rs,qs⟩:=p
 simp only[dW] at h ⊢
 refine Zb [1] [] Tryz.func238 rfl xy ?_;rw[Tryz.ntmps238,Tryz.results238]
 exact qB
theorem GT(p:Pg)(σ:Store)(R:ZE->Store->Prop)(h:∀ b,Zm σ b->R (.ret (.val (.func (.func 272) #[] #[.pointer (some ⟨b,0,none⟩)]))) ((b,.cells p.emb)::σ)):Zh nC 239 [.agg p.emb] σ R:=by
 obtain⟨ts,cs,ds,rs,qs⟩:=p
 simp only[dW] at h ⊢
 refine Zb [1] [] Tryz.func239 rfl xy ?_;rw[Tryz.ntmps239,Tryz.results239]
 exact qB
def TF(p:Pg):Bool :=
 decide (40<p.types.length) || decide (200<p.consts.length) || decide (100<p.preds.length) || decide (150<p.rules.length) || decide (40<p.queries.length) ||
 p.preds.any (fun d=>decide (8<d.types.length)) || p.queries.any (fun q=>decide (8<q.vars.length)) || (Uz (p.rules.map fun r=>r.form.shape) 4000).isNone ||
 p.queries.any (fun q=>decide (4000<prt q.form.shape 4000)) || UM ((VQ p).map Ty.shape) || UM ((OX p).map Ty.shape)
theorem El(p:Pg):Pur nC 180 [.agg p.emb] (vb (TF p)):=by
 intro σ
 refine Zh.ok xy (fun hok=>?_)
 have hp:=Sf (hok _ ir)
 clear hok
 have hdc:=TW p
 have huc:=GT p
 have hm1:∀ b S,Y3 b p S->_:=fun b S h=>FO 271 b p _ (UR b p hp) S h
 have hm2:∀ b S,Y3 b p S->_:=fun b S h=>FO 272 b p _ (JT b p hp) S h
 have hL:TF p=(decide (40<p.types.length) || decide (200<p.consts.length) || decide (100<p.preds.length) || decide (150<p.rules.length) || decide (40<p.queries.length) ||
  p.preds.any (fun d=>decide (8<d.types.length)) || p.queries.any (fun q=>decide (8<q.vars.length)) || (Uz (p.rules.map fun r=>r.form.shape) 4000).isNone ||
  p.queries.any (fun q=>decide (4000<prt q.form.shape 4000)) || UM ((VQ p).map Ty.shape) || UM ((OX p).map Ty.shape)):=rfl
 generalize TF p=res at hL ⊢
 generalize UM ((VQ p).map Ty.shape)=m1 at hm1 hL
 generalize UM ((OX p).map Ty.shape)=m2 at hm2 hL
 obtain⟨ts,cs,ds,rs,qs⟩:=p
 have a1:=fun σ=>aG σ ds .none 4 (.inl rfl) (.func (.func 233) #[] #[]) (fun d=>decide (8<d.types.length)) (fun d hd=>by rw[Z4];exact HN d (hp.ptypes d hd) σ)
 have a2:=fun σ=>DK σ qs .none 8 (.inl rfl) (.func (.func 235) #[] #[]) (fun q=>decide (8<q.vars.length)) (fun d hd=>by rw[Z4];exact HM d (hp.qvars d hd) σ)
 obtain⟨l1,l2,l3,l4,l5,_,_,_⟩:=hp
 simp only[dW,Y3] at *
 refine Zb [] [] Tryz.func180 rfl xy ?_;rw[Tryz.ntmps180,Tryz.results180]
 by_cases c1:40<ts.length
 ·have y1:((40:Int)<ts.length)=True:=iS xh
  have hr:res=true:=by rw[hL];simp[c1]
  rw[hr]
  try simp only[go_sem,seval,y1,iT,iV,ZX,io,dw,dC,du,dA]
  exact Zl
 ·by_cases c2:200<cs.length
  ·have y1:((40:Int)<ts.length)=False:=iU xh;have y2:((200:Int)<cs.length)=True:=iS xh
   have hr:res=true:=by rw[hL];simp[c2]
   rw[hr]
   try simp only[go_sem,seval,y1,y2,iT,iV,ZX,io,dw,dC,du,dA]
   exact Zl
  ·by_cases c3:100<ds.length
   ·have y1:((40:Int)<ts.length)=False:=iU xh;have y2:((200:Int)<cs.length)=False:=iU xh;have y3:((100:Int)<ds.length)=True:=iS xh
    have hr:res=true:=by rw[hL];simp[c3]
    rw[hr]
    try simp only[go_sem,seval,y1,y2,y3,iT,iV,ZX,io,dw,dC,du,dA]
    exact Zl
   ·by_cases c4:150<rs.length
    ·have y1:((40:Int)<ts.length)=False:=iU xh;have y2:((200:Int)<cs.length)=False:=iU xh;have y3:((100:Int)<ds.length)=False:=iU xh;have y4:((150:Int)<rs.length)=True:=iS xh
     have hr:res=true:=by rw[hL];simp[c4]
     rw[hr]
     try simp only[go_sem,seval,y1,y2,y3,y4,iT,iV,ZX,io,dw,dC,du,dA]
     exact Zl
    ·by_cases c5:40<qs.length
     ·have y1:((40:Int)<ts.length)=False:=iU xh;have y2:((200:Int)<cs.length)=False:=iU xh;have y3:((100:Int)<ds.length)=False:=iU xh;have y4:((150:Int)<rs.length)=False:=iU xh;have y5:((40:Int)<qs.length)=True:=iS xh
      have hr:res=true:=by rw[hL];simp[c5]
      rw[hr]
      try simp only[go_sem,seval,y1,y2,y3,y4,y5,iT,iV,ZX,io,dw,dC,du,dA]
      exact Zl
     ·have x1:((40:Int)<ts.length)=False:=iU xh
      have x2:((200:Int)<cs.length)=False:=iU xh
      have x3:((100:Int)<ds.length)=False:=iU xh
      have x4:((150:Int)<rs.length)=False:=iU xh
      have x5:((40:Int)<qs.length)=False:=iU xh
      try simp only[go_sem,seval,x1,x2,x3,x4,x5,iV,ZX,io,dw,dC,du,dA]
      refine(a1 _).only' ?_
      generalize ds.any (fun d=>decide (8<d.types.length))=b1 at hL
      cases b1 with
      | true =>
        have hr:res=true:=by rw[hL];simp
        rw[hr]
        exact oG
      | false =>
        refine uw ?_
        refine(a2 _).only' ?_
        generalize qs.any (fun d=>decide (8<d.vars.length))=b2 at hL
        cases b2 with
        | true =>
          have hr:res=true:=by rw[hL];simp
          rw[hr]
          exact oG
        | false =>
          try simp only[go_sem,seval,du]
          refine Zp (mu:=[]) (dr:=[]) [2,3,5,45,46,47,48,49,50,51,52,53,54,55,56,57] (fun x:Nat×Int=>[(45,vi x.1),(3,vi x.2)]) (fun _=>σ)
           (fun x=>x.1<=rs.length/\0<=x.2/\x.2<=4000/\Uz (rs.map fun r=>r.form.shape) 4000=Uz ((rs.drop x.1).map fun r=>r.form.shape) x.2) (fun x=>rs.length-x.1) (0,4000) xy ⟨by simp,by simp,by simp,rfl⟩ ⟨.refl _,.refl _,trivial⟩ (.refl _) ?_
          rintro⟨i,n⟩ ⟨hi,hn1,hn2,hx⟩
          dsimp only at hi hn1 hn2 hx
          by_cases hi2:(i:Int)<(rs.length:Int)
          ·have z1:=iS hi2
           have z0:(0<=(i:Int))=True:=iS xh
           refine wU fun a ha=>?_
           have g:(dx rs)[i]?=some a.emb:=by rw[dx,jp,ha];rfl
           have hpc:=MF a.form n hn1 hn2
           have hbd:=Wg a.form.shape n hn1
           have hd:Uz ((rs.drop i).map fun r=>r.form.shape) n=if n-prt a.form.shape n<0 then none else Uz ((rs.drop (i+1)).map fun r=>r.form.shape) (n-prt a.form.shape n):=by
            rw[drop_at ha];rfl
           rw[hd] at hx
           generalize prt a.form.shape n=m at hpc hbd hx
           obtain⟨sa,⟨ka,na,la,⟨xa,xl⟩,fa⟩,ua⟩:=a
           simp only[dZ,cM] at g hpc
           have w1:IntKind.i64.wrap (n-m)=n-m:=Zk xh xh
           refine uz fun w3=>?_
           try simp only[go_sem,seval,du,z0,z1,g,iT,iF,jq,jr,jt]
           intro b9 hb9
           refine uw ?_
           refine(hpc _).only' ?_
           by_cases hlt:n-m<0
           ·have z2:=iS hlt
            have hr:res=true:=by rw[hL,hx,gZ hlt];simp
            rw[hr]
            try simp only[go_sem,seval,w1,z2,iT]
            exact oW
           ·have z2:=iU hlt
            rw[ig hlt] at hx
            try simp only[go_sem,seval,w1,w3,z2,iV]
            exact .mk (i+1,n-m) ⟨by dsimp only;omega,by dsimp only;omega,by dsimp only;omega,hx⟩ xX ⟨.refl _,.refl _,trivial⟩ yS (.cons _ _)
          ·have z1:=iU hi2
           rw[jD xh] at hx
           have hsm:Uz (rs.map fun r=>r.form.shape) 4000=some n:=hx
           rw[hsm] at hL
           try simp only[go_sem,seval,du,dA,z1,iV]
           refine Zp (mu:=[]) (dr:=[]) [2,7,61,62,63,64,65,66,67,68,69] (fun j:Nat=>[(61,vi j)]) (fun _=>σ)
            (fun j=>j<=qs.length/\qs.any (fun q=>decide (4000<prt q.form.shape 4000))=(qs.drop j).any (fun q=>decide (4000<prt q.form.shape 4000))) (fun j=>qs.length-j) 0 xy ⟨by simp,rfl⟩ ⟨.refl _,trivial⟩ (.refl _) ?_
           rintro j ⟨hj,hy⟩
           by_cases hj2:(j:Int)<(qs.length:Int)
           ·have z1:=iS hj2
            have z0:(0<=(j:Int))=True:=iS xh
            obtain⟨a,ha⟩:∃ a,qs[j]?=some a:=⟨qs[j]' xh,iO xh⟩
            have g:(dy qs)[j]?=some a.emb:=by rw[dy,jp,ha];rfl
            have hpc:=MF a.form 4000 xh xh
            have hd:(qs.drop j).any (fun q=>decide (4000<prt q.form.shape 4000))=(decide (4000<prt a.form.shape 4000) || (qs.drop (j+1)).any (fun q=>decide (4000<prt q.form.shape 4000))):=by
             rw[drop_at ha];rfl
            rw[hd] at hy
            generalize prt a.form.shape 4000=m at hpc hy
            obtain⟨sa,va,⟨ka,na,la,⟨xa,xl⟩,fa⟩⟩:=a
            simp only[dX,cM] at g hpc
            refine vS fun w3=>?_
            try simp only[go_sem,seval,dA,z0,z1,g,iT,iF,jq,jr,jt]
            intro b9 hb9
            refine uw ?_
            refine(hpc _).only' ?_
            by_cases hlt:4000<m
            ·have z2:=iS hlt
             have hr:res=true:=by rw[hL,hy];simp[hlt]
             rw[hr]
             try simp only[go_sem,seval,z2,iT]
             exact oW
            ·have z2:=iU hlt
             rw[jY hlt,ja] at hy
             try simp only[go_sem,seval,w3,z2,iV]
             exact .mk (j+1) ⟨by omega,hy⟩ xh ⟨.refl _,trivial⟩ yS (.cons _ _)
           ·have z1:=iU hj2
            rw[jD xh] at hy
            rw[hy] at hL
            try simp only[go_sem,seval,dA,z1,iV]
            refine hdc _ _ (fun b1 hb1=>?_)
            refine uw ?_
            refine((hm1 b1 _ (Ze _ _ _))).only' ?_
            cases m1 with
            | true =>
              have hr:res=true:=by rw[hL];simp
              rw[hr]
              exact tT
            | false =>
              refine uw ?_
              refine huc _ _ (fun b2 hb2=>?_)
              refine uw ?_
              refine((hm2 b2 _ (Ze _ _ _))).only' ?_
              have hr:res=m2:=by rw[hL];simp[c1,c2,c3,c4,c5]
              rw[hr]
              refine uw ?_
              exact Zz (.refl _) ((Sub.refl σ).skip _ |>.skip _)
open Go.Proofs Go.RowKit
def Wc(σ:Store):List nK->Store->Prop
 | [],_=>True
 | d::r,S=>∃ D,d=WS D/\Zm σ D/\S.get D=some (.raw (.deferred (some [])))/\(∀ D',WS D'∈r->D'≠D)/\Wc σ r S
theorem Wc.keep{σ S S':Store}:∀ {ds:List nK},Wc σ ds S->Xc S S'->Wc σ ds S'
 | [],_,_=>trivial
 | d::r,⟨D,h1,h2,h3,h4,h5⟩,k=>⟨D,h1,h2,k _ _ h3 xf,h4,h5.keep k⟩
theorem Wc.set{σ S:Store}{D:Nat}{x:AObj}:∀ {ds:List nK},Wc σ ds S->(∀ D',WS D'∈ds->D'≠D)->Wc σ ds (S.set D x)
 | [],_,_=>trivial
 | d::r,⟨D1,h1,h2,h3,h4,h5⟩,k=>⟨D1,h1,h2,by rw[Za (k D1 (by rw[h1];simp))];exact h3,h4,h5.set (fun D' h=>k D' (kR _ h))⟩
theorem Wc.has{σ S:Store}{D:Nat}:∀ {ds:List nK},Wc σ ds S->WS D∈ds->S.get D=some (.raw (.deferred (some [])))
 | [],_,h=>by simp at h
 | d::r,⟨D1,h1,h2,h3,h4,h5⟩,h=>by
   rcases List.mem_cons.1 h with e|h
   ·rw[h1] at e;simp only[WS,Deferred.mk.injEq,Target.collected.injEq,and_true] at e;rw[e];exact h3
   ·exact h5.has h
theorem Wc.cons{σ S:Store}{D:Nat}{ds:List nK}(h:Wc σ ds S)(hf:Zm σ D)(hD:S.get D=some (.raw (.deferred (some []))))(hn:∀ D',WS D'∈ds->D'≠D):Wc σ (WS D::ds) S:=⟨D,rfl,hf,hD,hn,h⟩
theorem YT{P:nE}{rs:List ResultVar}{R:ZE->Store->Prop}{fr:Fr}{σ:Store}(W:Store->Prop)(hs:∀ S D x,W S->Zm σ D->S.get D=some (.raw (.deferred (some [])))->W (S.set D x))(k:∀ S,W S->Xf P rs R fr S) :
 ∀ (ds:List nK) (S:Store),Wc σ ds S->W S->YY P rs R fr ds S
 | [],S,_,hW=>k S hW
 | d::r,S,⟨D,h1,h2,h3,h4,h5⟩,hW=>.inl ⟨D,h1,h3,YT W hs k r _ (h5.set h4) (hs _ _ _ hW h2 h3)⟩
theorem Xc.refl(S:Store):Xc S S:=fun _ _ h _=>h
theorem Xc.cons{S:Store}{k:Nat}(hk:Zm S k)(x:AObj):Xc S ((k,x)::S):=fun j y hj _=>by rw[Zg hk (by rw[hj];rfl)];exact hj
theorem Wc.setc{σ S:Store}{ds:List nK}{b:Nat}{c:List AV}(h:Wc σ ds S)(hb:S.get b=some (.cells c))(x:AObj):Wc σ ds (S.set b x) :=
 h.set (fun D' hD e=>by have:=h.has hD;rw[e,hb] at this;cases this)
def dpT(t:Ty):Bool:=decide (100<lvl t.shape 100)
def VP(p:Pg):Bool:=(VQ p).any dpT || (OX p).any dpT || p.rules.any (fun r=>decide (100<lvl r.form.shape 100)) || p.queries.any (fun q=>decide (100<lvl q.form.shape 100))
def IDR(ch:List Nat)(fr:Fr)(σ:Store)(p:Pg)(b2:Nat):Exit->Fr->Store->Prop:=fun e fr' S=>e=.normal/\Zf ch fr fr'/\∃ bd bu,fr' 12=.list .full 1 [[.val (.func (.func 271) #[] #[.pointer (some ⟨bd,0,none⟩)])],[.val (.func (.func 272) #[] #[.pointer (some ⟨bu,0,none⟩)])]]/\fr' 13=vi 2/\fr' 14=vi 0 /\
 Y3 bd p S/\Y3 bu p S/\S.get b2=some (.cells [vb false])/\Has σ S
theorem En(p:Pg):Pur nC 181 [.agg p.emb] (vb (VP p)):=by
 intro σ
 refine Zh.ok xy (fun hok=>?_)
 have hp:=Sf (hok _ ir)
 clear hok
 refine Zh.nodup xy (fun hnd=>?_)
 have hdc:=TW p
 have huc:=GT p
 have hi1:=fun b=>UR b p hp
 have hi2:=fun b=>JT b p hp
 refine Un Tryz.func181 rfl xy ?_
 rw[Tryz.ntmps181,Tryz.results181]
 refine uA ?_
 obtain⟨p0,hp0⟩:∃ p0,p0=p:=⟨_,rfl⟩
 rw[<- hp0] at hdc huc hi1 hi2 ⊢
 obtain⟨ts,cs,ds,rs,qs⟩:=p
 refine vE fun he=>?_
 simp only[he] at hdc huc ⊢
 refine uw ?_
 intro b2 hb2
 simp only[ZW]
 refine .seq (.seq (.of ?_))
 generalize hfr:Fr.put (Fr.put (Fr.args _) 1 _) 2 _=fr0
 have f1:fr0 1=.ro p0.emb:=by rw[<- hfr,he];rfl
 have f2:fr0 2=.val (.pointer (some ⟨b2,0,none⟩)):=by rw[<- hfr];rfl
 rw[he] at f1
 clear hfr
 refine AWp.mono (Q:=IDR [8,9,10,11,12,13,14] fr0 σ p0 b2) (eR [] 7 [8,9,10,11,12,13,14] [(8,[]),(9,[(0,8)]),(10,[]),(11,[(2,10)]),(12,[(1,9),(3,11)]),(13,[(4,12)]),(14,[])] [(4,12),(5,13),(6,14)] (fun i v S=>match i with
  | 0=>v=.agg p0.emb
  | 1=>∃ b,v=.val (.func (.func 271) #[] #[.pointer (some ⟨b,0,none⟩)])/\Y3 b p0 S
  | 2=>v=.agg p0.emb
  | 3=>∃ b,v=.val (.func (.func 272) #[] #[.pointer (some ⟨b,0,none⟩)])/\Y3 b p0 S
  | 4=>∃ bd bu,v=.list .full 1 [[.val (.func (.func 271) #[] #[.pointer (some ⟨bd,0,none⟩)])],[.val (.func (.func 272) #[] #[.pointer (some ⟨bu,0,none⟩)])]]/\Y3 bd p0 S/\Y3 bu p0 S
  | 5=>v=vi 2
  | _=>v=vi 0) Xl (fun S=>S.get b2=some (.cells [vb false])/\Has σ S) xy xy ?_ ⟨Ze _ _ _,(Has.refl _).cons _⟩ ?_ ?_) ?_
 ·intro i v S S' hS h
  match i,h with
  | 0,h=>exact h
  | 1,⟨b,h1,h2⟩=>exact⟨b,h1,hS _ _ h2⟩
  | 2,h=>exact h
  | 3,⟨b,h1,h2⟩=>exact⟨b,h1,hS _ _ h2⟩
  | 4,⟨b,c,h1,h2,h3⟩=>exact⟨b,c,h1,hS _ _ h2,hS _ _ h3⟩
  | 5,h=>exact h
  | _+6,h=>exact h
 ·simp only[lh,iu,Xe,Xz,Yu,YK,he]
  refine⟨?_,?_,?_,?_,?_,?_,?_,trivial⟩
  ·exact tj
  ·rintro fr S hk hG ⟨h1,-⟩
   try simp only[go_sem,seval,h1]
   refine hdc _ _ (fun b hb=>?_)
   exact rp
  ·exact tj
  ·rintro fr S hk hG ⟨h1,-⟩
   try simp only[go_sem,seval,h1]
   refine huc _ _ (fun b hb=>?_)
   exact rp
  ·rintro fr S hk hG ⟨⟨bd,h1,g1⟩,⟨bu,h3,g3⟩,-⟩
   try simp only[go_sem,seval,h1,h3]
   exact⟨rfl,hG,bd,bu,rfl,g1,g3⟩
  ·rintro fr S hk hG ⟨⟨bd,bu,h4,g1,g3⟩,-⟩
   try simp only[go_sem,seval,h4]
   exact hG
  ·rintro fr S hk hG -
   refine uw ?_
   exact hG
 ·rintro fr S hk hG ⟨⟨bd,bu,h4,g1,g3⟩,h5,h6,-⟩
  exact(show IDR _ _ _ _ _ .normal fr S from⟨rfl,hk,bd,bu,h4,h5,h6,g1,g3,hG⟩)
 rintro e fr S ⟨rfl,hk,bd,bu,h12,h13,h14,gd,gu,g2,hH⟩
 have q1:=(hk 1 rfl).trans f1
 have q2:=(hk 2 rfl).trans f2
 clear hk f1 f2
 simp only[ZW]
 have q1':=q1;have q2':=q2
 refine .block (.rounds (fun j ds fr' S'=>j<=2/\fr' 1=fr 1/\fr' 2=fr 2/\fr' 12=fr 12/\fr' 13=vi 2/\fr' 14=vi ((2-j:Nat):Int)/\Y3 bd p0 S'/\Y3 bu p0 S'/\S'.get b2=some (.cells [vb false])/\Has σ S'/\Wc σ ds S' /\
  (j<=1->(VQ p0).any dpT=false)/\(j=0->(OX p0).any dpT=false)) 2 ⟨by omega,rfl,rfl,rfl,h13,h14,gd,gu,g2,hH,trivial,by omega,by omega⟩ ?_)
 clear h13 h14 gd gu g2 hH
 rintro j dd fr1 S1 ⟨hj,k1,k2,k12,h13,h14,gd,gu,g2,hH,hD,hd1,hd2⟩
 rw[q1] at k1;rw[q2] at k2;rw[h12] at k12
 refine uA ?_
 try simp only[go_sem,seval,h13,h14]
 simp only[ZW]
 match j,hj,h14,hd1,hd2 with
 | 0,_,h14,hd1,hd2 =>
   refine uA ?_
   try simp only[go_sem,seval,h13,h14]
   simp only[F7,Ww,ZW]
   rw[gZ trivial]
   have e1:=hd1 xh
   have e2:=hd2 rfl
   have hS:VP p0=((p0.rules.any fun r=>decide (100<lvl r.form.shape 100)) || p0.queries.any fun q=>decide (100<lvl q.form.shape 100)):=by unfold VP;rw[e1,e2];rfl
   rw[hS]
   have hrl:p0.rules=rs:=by rw[hp0]
   have hql:p0.queries=qs:=by rw[hp0]
   rw[hrl,hql]
   have lr:rs.length<=137438953472:=hp.rules
   refine uC ?_
   try simp only[go_sem,seval,k1]
   refine Zp (mu:=[]) (dr:=[]) [7,27,28,29,30,31,32,33,34,35] (fun x:Nat×Store=>[(27,vi x.1)]) (fun x=>x.2)
    (fun x=>x.1<=rs.length/\x.2.get b2=some (.cells [vb false])/\Has σ x.2/\Wc σ dd x.2/\(rs.any fun r=>decide (100<lvl r.form.shape 100))=((rs.drop x.1).any fun r=>decide (100<lvl r.form.shape 100))) (fun x=>rs.length-x.1) (0,S1) xy ⟨by simp,g2,hH,hD,by simp⟩ ⟨.refl _,trivial⟩ (.refl _) ?_
   rintro⟨i,S⟩ ⟨hi,i2,iH,iD,hx⟩
   dsimp only at hi i2 iH iD hx
   by_cases hi2:(i:Int)<(rs.length:Int)
   ·have x1:=iS hi2
    refine uB fun x0=>?_
    refine wU fun a ha=>?_
    have g:(dx rs)[i]?=some a.emb:=by rw[dx,jp,ha];rfl
    refine uz fun w3=>?_
    rw[drop_at ha,mX] at hx
    have hl:=Ot a.form 100 xh xh
    generalize lvl a.form.shape 100=m at hl hx
    obtain⟨sa,⟨ka,na,aa,⟨xa,xl⟩,fa⟩,ua⟩:=a
    simp only[dZ,cM] at g hl
    try simp only[go_sem,seval,du,x0,x1,g,iT,iF,jq,jr,jt]
    intro b7 hb7
    refine uw ?_
    refine hl.use ?_
    by_cases hm:100<m
    ·have y1:(m > 100)=True:=iS hm
     rw[hx,jy hm]
     have n7:=ZI hb7 i2
     have n72:=iC n7
     try simp only[go_sem,seval,y1,k2,iT,n7,n72,i2,jX]
     show YY _ _ _ _ _ _
     have hc7:Store.get ((b7,AObj.cells [vs sa,vi ka,vs na,.list .none 4 (cJ aa),vs xa,.list .none 2 (cI xl),.list .none 6 (cN fa),vi ua])::S) b2=some (.cells [vb false]):=by rw[Zc n7];exact i2
     have hGG:=Zd hc7 (y:=.cells [vb true])
     have hDD:=(iD.keep (.cons hb7 _)).setc hc7 (.cells [vb true])
     have hHH:=(iH.cons (b7,AObj.cells [vs sa,vi ka,vs na,.list .none 4 (cJ aa),vs xa,.list .none 2 (cI xl),.list .none 6 (cN fa),vi ua])).set hb2 (.cells [vb true])
     rw[Zo n7] at hGG hDD hHH
     refine YT (fun S=>S.get b2=some (.cells [vb true])/\Has σ S) (fun S D x h hf hg=>⟨by rw[Za (fun e=>by rw[<- e,h.1] at hg;cases hg)];exact h.1,h.2.set hf _⟩) (fun S h=>?_) _ _ hDD ⟨hGG,hHH⟩
     try simp only[go_sem,seval,h.1,k2]
     exact .mk (.refl _) (h.2.sub hnd) ⟨rfl,rfl⟩
    ·have y1:(m > 100)=False:=iU hm
     rw[jY hm,ja] at hx
     try simp only[go_sem,seval,y1,iV,w3]
     exact .mk (i+1,_) ⟨by dsimp only;omega,by dsimp only;rw[Zg hb7 (by rw[i2];rfl)];exact i2,iH.cons _,iD.keep (.cons hb7 _),hx⟩ xX ⟨.refl _,trivial⟩ yS (.refl _)
   ·have x1:=iU hi2
    rw[jD xh] at hx
    rw[hx,List.any_nil,ja]
    have hq:=fun σ=>DK σ qs .none 8 (.inl rfl) (.func (.func 242) #[] #[]) (fun q=>decide (100<lvl q.form.shape 100)) (fun d _=>by rw[Z4];exact HP d σ)
    generalize(qs.any fun q=>decide (100<lvl q.form.shape 100))=bq at hq
    try simp only[go_sem,seval,du,x1,iV,k1]
    refine(hq _).only' ?_
    try simp only[go_sem,seval,k2,i2,jX]
    show YY _ _ _ _ _ _
    have hGG:=Zd i2 (y:=.cells [vb bq])
    have hDD:=iD.setc i2 (.cells [vb bq])
    have hHH:=iH.set hb2 (.cells [vb bq])
    refine YT (fun S=>S.get b2=some (.cells [vb bq])/\Has σ S) (fun S D x h hf hg=>⟨by rw[Za (fun e=>by rw[<- e,h.1] at hg;cases hg)];exact h.1,h.2.set hf _⟩) (fun S h=>?_) _ _ hDD ⟨hGG,hHH⟩
    try simp only[go_sem,seval,h.1,k2]
    exact .mk (.refl _) (h.2.sub hnd) ⟨rfl,rfl⟩
 | 1,_,h14,hd1,hd2 =>
   clear hd2
   have hIt:=hi2 bu
   have e1:=hd1 xh
   refine uA ?_
   try simp only[go_sem,seval,h13,h14]
   simp only[ZW]
   have w1:IntKind.i64.wrap ((1:Int)+1)=((1+1:Nat):Int):=Zk xh xh
   refine .seq (.block (.seq (.of (Zn (mu:=[]) (dr:=[]) xy _ xy _ _ _ ?_))))
   try simp only[go_sem,seval,k12,h14,show((1:Int)).toNat=1 from rfl,kU,mg,jq,jr]
   simp only[ZW]
   refine uA ?_
   refine uw ?_
   simp only[ZW]
   refine .block (.rangeI (e:=tyA) (L:=OX p0) 272 #[.pointer (some ⟨bu,0,none⟩)] (Y3 bu p0) [b2]
    (fun q S=>q.any dpT=false/\S.get b2=some (.cells [vb false])/\Y3 bd p0 S/\Y3 bu p0 S/\Has σ S/\Wc σ dd S)
    (fun c q S=>c=.ret/\q.any dpT=true/\S.get b2=some (.cells [vb true])/\Has σ S/\Wc σ dd S) xy yy hIt ⟨rfl,g2,gd,gu,hH,hD⟩ ?_ ?_ ?_ ?_ ?_ ?_ ?_ ?_)
   ·exact qJ
   ·exact qi
   ·exact rq
   ·rintro q S ⟨i1,i2,i3,i4,i5,i6⟩;first|exact i3|exact i4
   ·rintro q S ⟨i1,i2,i3,i4,i5,i6⟩ k hk
    rw[List.mem_singleton.1 hk,i2];rfl
   ·exact oE
   ·rintro D S hfD hgD ⟨hnone,j3,j4,j5,j6,j7⟩
    have hne:∀ D',WS D'∈dd->D'≠D:=fun D' h e=>by have:=hD.has h;rw[e,Zj hfD] at this;cases this
    replace hfD:=hH.fresh hfD
    simp only[Ww,ZW]
    refine uC ?_
    try simp only[go_sem,seval,h14,w1]
    exact⟨0,by omega,by omega,by try simp only[go_sem,seval,k1,q1],by try simp only[go_sem,seval,k2,q2],by try simp only[go_sem,seval,k12,h12],by try simp only[go_sem,seval,h13],by try simp only[go_sem,seval,h14,w1];rfl,j4,j5,j3,j6,Wc.cons j7 hfD hgD hne,fun _=>e1,fun _=>hnone⟩
   ·exact oZ
 | 2,_,h14,hd1,hd2 =>
   have hIt:=hi1 bd
   refine uA ?_
   try simp only[go_sem,seval,h13,h14]
   simp only[ZW]
   have w1:IntKind.i64.wrap ((0:Int)+1)=((0+1:Nat):Int):=Zk xh xh
   refine .seq (.block (.seq (.of (Zn (mu:=[]) (dr:=[]) xy _ xy _ _ _ ?_))))
   try simp only[go_sem,seval,k12,h14,show((0:Int)).toNat=0 from rfl,kU,mg,jq,jr]
   simp only[ZW]
   refine uA ?_
   refine uw ?_
   simp only[ZW]
   refine .block (.rangeI (e:=tyA) (L:=VQ p0) 271 #[.pointer (some ⟨bd,0,none⟩)] (Y3 bd p0) [b2]
    (fun q S=>q.any dpT=false/\S.get b2=some (.cells [vb false])/\Y3 bd p0 S/\Y3 bu p0 S/\Has σ S/\Wc σ dd S)
    (fun c q S=>c=.ret/\q.any dpT=true/\S.get b2=some (.cells [vb true])/\Has σ S/\Wc σ dd S) xy yy hIt ⟨rfl,g2,gd,gu,hH,hD⟩ ?_ ?_ ?_ ?_ ?_ ?_ ?_ ?_)
   ·exact qJ
   ·exact qi
   ·exact rq
   ·rintro q S ⟨i1,i2,i3,i4,i5,i6⟩;first|exact i3|exact i4
   ·rintro q S ⟨i1,i2,i3,i4,i5,i6⟩ k hk
    rw[List.mem_singleton.1 hk,i2];rfl
   ·exact oE
   ·rintro D S hfD hgD ⟨hnone,j3,j4,j5,j6,j7⟩
    have hne:∀ D',WS D'∈dd->D'≠D:=fun D' h e=>by have:=hD.has h;rw[e,Zj hfD] at this;cases this
    replace hfD:=hH.fresh hfD
    simp only[Ww,ZW]
    refine uC ?_
    try simp only[go_sem,seval,h14,w1]
    exact⟨1,by omega,by omega,by try simp only[go_sem,seval,k1,q1],by try simp only[go_sem,seval,k2,q2],by try simp only[go_sem,seval,k12,h12],by try simp only[go_sem,seval,h13],by try simp only[go_sem,seval,h14,w1];rfl,j4,j5,j3,j6,Wc.cons j7 hfD hgD hne,fun _=>hnone,by omega⟩
   ·exact oZ
open Go.Proofs Go.RowKit
def Ip(R:ZE->Store->Prop)(pv:nG):List nK->Store->Prop
 | [],σ=>JN R pv σ
 | d::ds,σ=>∃ D,d=WS D/\σ.get D=some (.raw (.deferred (some [])))/\Ip R pv ds (σ.set D (.raw (.deferred none)))
def Ef(P:nE)(rs:List ResultVar)(R:ZE->Store->Prop):Exit->List nK->Fr->Store->Prop
 | .normal,ds,fr,σ=>YY P rs R fr ds σ
 | .ret,ds,fr,σ=>YY P rs R fr ds σ
 | .panic c,ds,_,σ=>∃ pv,c=[{ v:=pv,recovered:=false }]/\Ip R pv ds σ
 | _,_,_,_=>False
theorem Sn(P:nE)(rs:List ResultVar)(R:ZE->Store->Prop)(pv:nG)(ds:List nK)(fr:Fr)(σ:Store):Ef P rs R (.panic [{ v:=pv,recovered:=false }]) ds fr σ=Ip R pv ds σ:=by
 apply propext
 constructor
 ·rintro⟨v,h,k⟩
  simp only[lR,PanicEntry.mk.injEq,and_true] at h
  rw[h];exact k
 ·exact fun h=>⟨pv,rfl,h⟩
theorem JG{P:nE}{f:nL}{fn:Func}{c:Code}{args:List AV}{σ:Store}{R:ZE->Store->Prop}(hf:P.funcs[f]?=some fn)(hb:fn.body=some c)
 (hchk:(fn.results.toList.all (Kk fn.ntmps)&&decide (args.length<=fn.ntmps)&&YV P f)=true) (h:DWp P fn.ntmps [] c (Ef P fn.results.toList R) (Fr.args args) σ):Zh P f args σ R:=by
 simp only[kJ,kD] at hchk
 obtain⟨⟨h2,h3⟩,h4⟩:=hchk
 refine⟨h4,fun w vs hσ hv=>?_⟩
 have hsz:vs.size=args.length:=by have:=hv.1;simp at this;omega
 refine Pi hf hb ?_
 have endK:∀ fr' σ' (a':Act) w',Xf P fn.results.toList R fr' σ'->XM fn.ntmps (live σ') w' fr' a'.tmps->Zq σ' w'->Ev σ w σ' w'->∃ v,(results fn a'.tmps).run P w'=.ok v w'/\Wb σ w R (.returned v) w':=by
  intro fr' σ' a' w' q hfr hok v
  obtain⟨us,ws,r1,r2,v',σ2,k1,k3⟩:=Ul hfr hok _ _ h2 q
  have hrun:(results fn a'.tmps).run P w'=.ok (if h:us.toArray.size=1 then us.toArray[0] else .tuple us.toArray) w':=by
   exact pU
  have hval:V (live σ') w' (dN ws) (if h:us.toArray.size=1 then us.toArray[0] else .tuple us.toArray):=by
   match ws,us,r2 with
   | [],[],_=>exact V.tup [] [] rfl xf
   | [a],[u],r2=>exact r2.2 0 a u rfl rfl
   | a::b::r,x::y::t,r2 =>
     exact pO
  obtain⟨j1,j2,j3⟩:=k1 w' _ hok hval
  exact⟨_,hrun,v',σ2,k3,j1,j2,v.trans j3⟩
 have inv:∀ (g:nL) (cap:nN nG) (w':nH),YV P g=true->(invoke (.fn (.func g) cap) #[]).run P w'=.ok (.enter g cap) w':=by
  exact tu
 have goD:∀ (u u':FrameMode) (hu:u≠.run) (hst:settle u'=.returning) (g:nL) (cap:nN nG) (fr':Fr) (σ':Store) (a':Act) (w':nH),Vl P g cap.toList u u' σ' (Xf P fn.results.toList R fr')->XM fn.ntmps (live σ') w' fr' a'.tmps->Zq σ' w'->Ev σ w σ' w' ->
  Leaves P fn a'.tmps (Wb σ w R) [dfr g cap] u w':=by
  exact oQ
 refine h _ w ⟨rfl,⟨by simp;omega,fun i hi=>?_⟩,hσ⟩ _ (fun e ds' fr' σ' a' w' q c' v=>?_)
 ·exact oA
 ·have hd:=c'.defers
  have leave:∀ (l:List nK) (σ2:Store) (w2:nH),YY P fn.results.toList R fr' l σ2->XM fn.ntmps (live σ2) w2 fr' a'.tmps->Zq σ2 w2->Ev σ w σ2 w2->Ux P fn a'.tmps (Wb σ w R) l .returning w2:=by
   exact pg
  cases e with
  | normal=>show Ux _ _ _ _ a'.defers _ _;rw[hd];exact leave ds' σ' w' q c'.fr c'.ok v
  | ret=>show Ux _ _ _ _ a'.defers _ _;rw[hd];exact leave ds' σ' w' q c'.fr c'.ok v
  | panic ch =>
    obtain⟨pv,rfl,q⟩:=q
    have leaveP:∀ (l:List nK) (σ2:Store) (w2:nH),Ip R pv l σ2->Zq σ2 w2->Ev σ w σ2 w2->Ux P fn a'.tmps (Wb σ w R) l (.panicking [{ v:=pv,recovered:=false }]) w2:=by
     intro l
     induction l with
     | nil =>
       intro σ2 w2 q hok hv
       obtain⟨σ3,hs,hr⟩:=q
       exact⟨pv,σ3,rfl,hr,hok.sub hs,hv.trans (hs.ev w2)⟩
     | cons d l ih =>
       intro σ2 w2 q hok hv
       obtain⟨D,rfl,hD,q⟩:=q
       obtain⟨t1,t2,t3⟩:=W5 hok hD (.deferred none)
       have hw:w2.heap[D]?=some (.deferred (some [])):=hok.obj D _ (ZU hD)
       exact .inl ⟨D,_,rfl,run_takeDeferred hw,ih _ _ q t1 (hv.trans t2)⟩
    show Ux _ _ _ _ a'.defers _ _
    rw[hd]
    exact leaveP ds' σ' w' q c'.ok v
  | exit i=>exact q.elim
  | goto l=>exact q.elim
  | outgrown=>exact q.elim
end Go.Vx
end
