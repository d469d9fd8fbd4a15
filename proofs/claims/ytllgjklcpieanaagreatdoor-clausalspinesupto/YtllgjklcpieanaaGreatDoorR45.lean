/- A part of the proof of clausalSpinesProved. -/
import Derived.Test.YtllgjklcpieanaaGreatDoorR44
import Derived.Test.YtllgjklcpieanaaGreatDoorR42
set_option linter.unusedVariables false
set_option linter.unusedSimpArgs false
set_option maxRecDepth 100000
section
set_option maxHeartbeats 4000000
namespace Go.Vx
open Go.Proofs Go.RowKit
abbrev zG:List AV:=[vi 0,.val (.string { data:=#[] }),.list .full 0 [],.val (.string { data:=#[] }),.list .full 0 [],.list .full 0 [],vi 0,vi 0,.list .full 0 []]
theorem SS{bd:List Int}{q:QF}{l:List Fm}{i:Nat}{g:Fm}{n:Int}(hg:g∈l)(hn:n∈YQ bd q g i):n∈Ye bd q l i:=by
 induction l with
 | nil=>cases hg
 | cons a r ih =>
   simp only[Ye,mi]
   rcases List.mem_cons.1 hg with rfl|hg
   ·exact .inl hn
   ·exact .inr (ih hg)
theorem Zf.wide{ch ch2:List Nat}{fr fr':Fr}(h:ch2.all (fun i=>ch.contains i)=true)(k:Zf ch2 fr fr'):Zf ch fr fr':=fun a ha=>k a (by
 cases e:ch2.contains a with
 | false=>rfl
 | true =>
   have:=List.all_eq_true.1 h a (by simpa using e)
   rw[this] at ha
   cases ha)
theorem FK.out{σ:Store}{bm bs br bo:Nat}{zs cs:List AV}{gv0 vt0 vl0 gv vt vl:AV}{st:GSt}{T:Nat->Prop}{S0 S:Store}(h:FK σ (sO bm bs gv0 vt0 vl0) S0 bm bs br bo zs gv vt vl st cs T S) :
 SK σ bm bs gv vt vl st (S.set br (.cells cs))/\Kp (sO bm bs gv0 vt0 vl0) (sO bm bs gv vt vl) S0 (S.set br (.cells cs)) :=
 ⟨h.sk.set h.or h.fr _,h.kp.drop.set (.inr h.fr0) _⟩
theorem HZ(k:Nat)(σ:Store)(bm:Nat)(hG:GlC σ bm k (Z2 k))(hGm:GQ (Z2 k)):GlC σ bm (k+1) (Z2 (k+1)):=by
 intro f bs bd mq qf V gv vt vl st S h hQ hm hsc hshp hdp hnd hbd hsl htl
 refine Zh.ok xy (fun hok=>?_)
 obtain⟨kd,s,a,⟨ts,tl⟩,l⟩:=f
 have hlen:=(((hok (.agg (Fm.mk kd s a (.mk ts tl) l).emb) xf).agg (c:=.list .none 4 (cJ a)) xt).len)
 have hlen2:=(((hok (.agg (Fm.mk kd s a (.mk ts tl) l).emb) xf).agg (c:=.list .none 6 (cN l)) xt).len)
 rw[cF] at hlen
 rw[cU] at hlen2
 clear hok
 obtain⟨m',hm',hdk⟩:=dp_kid hdp
 have hkk:m'=k:=by omega
 subst hkk
 have hkid:=fun x (hx:x∈l)=>Fm.nds_kid (k:=kd) (s:=s) (a:=a) (t:=.mk ts tl) hx
 have hkl:=X6 hshp
 have hkm:=X5 hshp
 simp only[scF,kJ] at hsc
 obtain⟨⟨hs1,hs2⟩,hs3⟩:=hsc
 rw[UJ] at hs1
 rw[Mr] at hs2
 have hn0:=h.mkr.n0
 have hn1:=h.mkr.n1
 obtain⟨es',hgw,-⟩:=id h.mkr.gw
 have g1:=hgw.one.1
 simp only[cM]
 refine Zb [82,95] [(7,7,8),(14,7,8),(20,1000,0),(21,1000,0),(23,9,0),(26,1000,0),(27,6,0)] Tryz.func67 rfl xy ?_;rw[Tryz.ntmps67,Tryz.results67]
 refine uw ?_
 intro b6 hb6
 have f6:Zm S b6:=hb6
 have h1:=h.cons hb6 (.cells zG)
 have k1:=(Kp.refl (mO bm gv) S).cons hb6 (.cells zG)
 obtain⟨S1,hS1⟩:∃ S1:Store,S1=(b6,AObj.cells zG)::S:=⟨_,rfl⟩
 have e6:S1.get b6=some (.cells zG):=by rw[hS1];exact Ze _ _ _
 rw[<- hS1] at h1 k1 ⊢
 clear hS1 hb6
 have gs1:=h1.gs
 try simp only[go_sem,seval,gs1]
 refine(Rb bm gv st.m.n 1 S1 g1 hn0 xh xh xh h1.mkr.gm).mono ?_
 rintro r S2 ⟨rfl,(⟨hc,rfl⟩|⟨hc,rfl⟩)⟩
 rotate_left
 ·have eN:Z2 (m'+1) (.mk kd s a (.mk ts tl) l) bd qf st=none:=by simp only[Z2,Uf,ig (show ¬ st.m.n+1<=8000 by omega)]
  rw[eN]
  refine uw ?_
  exact .mk (.refl _) ⟨rfl,h1.mkr.has.set h1.mkr.fm _,((k1.trans (h1.mkr.kpc _)).pn0).imp fun _ e=>.inl e⟩
 have h2:=h1.count (k:=1) xh hc
 have k2:=k1.trans (h1.mkr.kpc (.cells [gv,vi (st.m.n+1)]))
 have e6':(S1.set bm (.cells [gv,vi (st.m.n+1)])).get b6=some (.cells zG):=by rw[Za (Zv h.mkr.gm f6).symm];exact e6
 obtain⟨S2,hS2⟩:∃ S2:Store,S2=S1.set bm (.cells [gv,vi (st.m.n+1)]):=⟨_,rfl⟩
 rw[<- hS2] at h2 k2 e6' ⊢
 have o6:¬ sO bm bs gv vt vl b6:=fun e=>by obtain⟨c,hc⟩:=h.own b6 e;rw[Zj f6] at hc;cases hc
 clear h1 k1 e6 gs1 hS2
 refine uw ?_
 intro b7 hb7
 have hF:FK σ (sO bm bs gv vt vl) S bm bs b6 b7 zG gv vt vl (st.add 1) [vi kd,.val (.string { data:=#[] }),.list .full 0 [],.val (.string { data:=#[] }),.list .full 0 [],.list .full 0 [],vi 0,vi 0,.list .full 0 []] (fun _=>False) ((b7,.cells [vi kd,.val (.string { data:=#[] }),.list .full 0 [],.val (.string { data:=#[] }),.list .full 0 [],.list .full 0 [],vi 0,vi 0,.list .full 0 []])::S2) :=
  { sk:=h2.cons hb7 _,go:=Ze _ _ _,gr:=by rw[Zg hb7 (by rw[e6'];rfl)];exact e6',kp:=((k2.up (bs:=bs) (vt:=vt) (vl:=vl)).cons hb7 _).imp (fun _ _ e=>e) (fun _ e=>e.elim id False.elim),oo:=(fun e=>by obtain⟨c,hc⟩:=h2.own b7 e;rw[Zj hb7] at hc;cases hc),or:=o6,fo:=h2.mkr.has.fresh hb7,fo0:=k2.fresh (fun b hb=>by obtain⟨c,hc⟩:=h2.mkr.own b hb;rw[hc];rfl) hb7,fr:=h.mkr.has.fresh f6,fr0:=f6,nro:=Zv e6' hb7 }
 obtain⟨S3,hS3⟩:∃ S3:Store,S3=((b7,.cells [vi kd,.val (.string { data:=#[] }),.list .full 0 [],.val (.string { data:=#[] }),.list .full 0 [],.list .full 0 [],vi 0,vi 0,.list .full 0 []])::S2):=⟨_,rfl⟩
 rw[<- hS3] at hF ⊢
 have hst1:(st.add 1).m=⟨st.m.gs,st.m.n+1⟩:=rfl
 have hQF:=fun T cs gv' vt' vl' st' S' (hF:FK σ (sO bm bs gv vt vl) S bm bs b6 b7 zG gv' vt' vl' st' cs T S')=>hQ.kp hF.kp h.own
 clear hb7 e6' h2 k2 o6 hgw
 have g7:=hF.go
 have g24:=hF.sk.gs
 by_cases q1:kd=1
 ·subst q1
  refine uw ?_
  obtain⟨eq1,hq1⟩:∃ o,o=Z2 (m'+1) (.mk 1 s a (.mk ts tl) l) bd qf st:=⟨_,rfl⟩
  have eqn:eq1=match Uf ⟨st.m.gs,st.m.n+1⟩ (cP (cK a)) with
   | none=>none
   | some m2=>some (.mk 1 s (Xx bd qf a 0) zTy [] 0 0 [],{ st with m:=m2 }):=by rw[hq1];simp only[Z2,Uf,gZ hc];rfl
  rw[<- hq1]
  have hmn:=hF.sk.mkr.n0
  have hmn1:=hF.sk.mkr.n1
  have hargs:=fun x (hx:x∈a)=>fh (k:=1) (s:=s) (t:=.mk ts tl) (l:=l) hx
  have hF:=hF.tip (T':=Tp (.list .full 0 [])) (fun k e=>by simp[Tp,Ym] at e)
  have hFp:=hF.put [vi 1,vs s,.list .full 0 [],.val (.string { data:=#[] }),.list .full 0 [],.list .full 0 [],vi 0,vi 0,.list .full 0 []]
  rw[hS3,show ∀ x y:AObj,Store.set ((b7,x)::S2) b7 y=(b7,y)::S2 from fun x y=>by simp only[Store.set,gZ]] at hFp
  clear hS3
  refine Zp (mu:=[82,95]) (dr:=[(7,7,8),(14,7,8),(20,1000,0),(21,1000,0),(23,9,0),(26,1000,0),(27,6,0)]) [9,47,48,49,50,51,52,53,54,55,56,57,58,59,60] (fun x:Nat×AV×Store=>[(47,vi x.1)]) (fun x=>x.2.2)
   (fun x=>x.1<=a.length/\st.m.n+1+cP (cK (a.take x.1))<=8000/\FK σ (sO bm bs gv vt vl) S bm bs b6 b7 zG gv vt vl ((st.add 1).add (cP (cK (a.take x.1)))) [vi 1,vs s,x.2.1,.val (.string { data:=#[] }),.list .full 0 [],.list .full 0 [],vi 0,vi 0,.list .full 0 []] (Tp x.2.1) x.2.2 /\
    LV σ x.2.2 x.2.1 4 (cJ (Xx bd qf (a.take x.1) 0))) (fun x=>a.length-x.1)
   (0,.list .full 0 [],_) xy ⟨by omega,by simp only[iu,cK,cP];omega,by simp only[iu,cK,cP,GSt.add,MSt.add,Int.natCast_zero,Int.add_zero];exact hFp,LV.nil _ _ _⟩ ⟨.refl _,trivial⟩ (.refl _) ?_
  clear hF g7 g24
  rintro⟨j,vr,T⟩ ⟨hj,hcn,hF,hL⟩
  dsimp only at hj hcn hF hL
  refine vy fun x0=>?_
  by_cases c:j<a.length
  ·have x1:((j:Int)<(a.length:Int))=True:=iS xh
   obtain⟨u,hat⟩:∃ t,a[j]?=some t:=⟨a[j],iO c⟩
   have hma:=iG hat
   have hka:=hargs u hma
   have gt:(cJ a)[j]?=some u.emb:=by rw[cW,jp,hat];rfl
   refine uV fun hw=>?_
   have hta:a.take (j+1)=a.take j++[u]:=by rw[jh,hat];rfl
   have htk:cJ (Xx bd qf (a.take (j+1)) 0)=cJ (Xx bd qf (a.take j) 0)++[(teS bd qf u 0).emb]:=by rw[hta];simp[cW,Xv]
   have hnd2:cP (cK (a.take (j+1)))=cP (cK (a.take j))+u.shape.nds:=by rw[hta,cS,jv,ZL];simp[cP,cS]
   have hnd3:cP (cK (a.take (j+1)))<=cP (cK a):=by
    have e2:=YO (cK a) (j+1)
    rwa [show(cK a).take (j+1)=cK (a.take (j+1)) by rw[cS,cS,jx]] at e2
   have iha:=Ml σ bm bs bd mq qf V hm xh u 0 gv vt vl ((st.add 1).add (cP (cK (a.take j))))
   have hsa:=hs1 u hma
   generalize teS bd qf u 0=ta at iha htk
   obtain⟨ka,na,sa,la⟩:=u
   obtain⟨kt,nt,zt,lt⟩:=ta
   simp only[cO] at gt iha htk
   refine vG ?_
   intro b9 hb9
   obtain⟨U,hU⟩:∃ U:Store,U=(b9,AObj.cells [vi ka,vi na,vs sa,.list .none 4 (cJ la)])::T:=⟨_,rfl⟩
   have u9:U.get b9=some (.cells [vi ka,vi na,vs sa,.list .none 4 (cJ la)]):=by rw[hU];exact Ze _ _ _
   have uF:=hF.cons hb9 (.cells [vi ka,vi na,vs sa,.list .none 4 (cJ la)])
   have uL:=hL.cons hb9 (.cells [vi ka,vi na,vs sa,.list .none 4 (cJ la)])
   have o9:¬ sO bm bs gv vt vl b9:=fun e=>by obtain⟨c,hc⟩:=hF.sk.own b9 e;rw[Zj hb9] at hc;cases hc
   rw[<- hU] at uF uL ⊢
   clear hU hb9 hF hL
   have u7:=uF.go
   try simp only[go_sem,seval,u7,u9,uL.one,uL.cells]
   refine(iha U uF.sk (hQF _ _ _ _ _ _ _ uF) (by rw[jG];exact hsa) xh).mono ?_
   rintro r U2 (⟨hc2,rfl,hs2',hk2⟩|⟨hc2,rfl,hH2,hP2⟩)
   ·have hk2:=hk2.up (bs:=bs) (vt:=vt) (vl:=vl)
    have wF:=uF.goal hs2' hk2
    have wL:=uL.fk uF.sk hk2
    have w9:=(hk2 _ _ u9 o9).1
    have w7:=wF.go
    rw[dV,dV,show(1+((cP (cK (a.take j)):Int)+(Tm.mk ka na sa la).shape.nds))=1+(cP (cK (a.take (j+1))):Int) by rw[hnd2];omega,<- dV] at wF
    clear uF uL u9 u7 hk2 hs2' o9
    try simp only[go_sem,seval,w7,w9,wL.one,wL.cells]
    refine⟨rfl,wL.appT rfl xj yE rfl xf wF.has (fun v1 S1 hv1 hT1 hS1=>?_)⟩
    have yF:=wF.app (T':=Tp v1) wL hT1 hS1 (fun _ e=>e) (fun _ e=>.inr e)
    have y7:=yF.go
    rw[<- htk] at hv1
    clear wF wL hT1 hS1 w9 w7
    try simp only[go_sem,seval,y7,hw,hv1.one,hv1.cells]
    exact .mk (j+1,v1,S1.set b7 (.cells [vi 1,vs s,v1,.val (.string { data:=#[] }),.list .full 0 [],.list .full 0 [],vi 0,vi 0,.list .full 0 []]))
     ⟨by omega,by simp only[GSt.add,MSt.add] at hc2;dsimp only;omega,yF.put _,hv1.set y7 xf _⟩ xX ⟨.refl _,trivial⟩ yS (.refl _)
   ·rw[eqn,Uf,if_neg (by simp only[GSt.add,MSt.add] at hc2;dsimp only;omega)]
    exact rG
  have x1:((j:Int)<(a.length:Int))=False:=iU xh
  rw[show a.take j=a from iW xh] at hL hF hcn
  rw[eqn,Uf,gZ hcn]
  have wr:=hL.wk
  have wr1:=hL.one
  have wr2:=hL.cells
  have h7:=hF.go
  have h6:=hF.gr
  obtain⟨hS6,hK6⟩:=hF.out
  try simp only[go_sem,seval,cF,x0,x1,iV,h7,h6]
  exact⟨wr1,.mk (Wkl.agg (s:=Zi.emb (.mk 1 s (Xx bd qf a 0) zTy [] 0 0 [])) ⟨.refl _,.refl _,wr,.refl _,.nilN _ _,.nilN _ _,.refl _,.refl _,.nilN _ _,trivial⟩) (.refl _) ⟨rfl,gv,vt,vl,hS6,hK6⟩⟩
 clear hS3
 have z1:=iU q1
 by_cases q10:kd=10\/kd=11
 ·obtain⟨g,rfl⟩:∃ g,l=[g]:=by rcases q10 with rfl|rfl<;>exact X8 hkl
  have hz:((kd=10)=True/\(kd=11)=False)\/((kd=10)=False/\(kd=11)=True):=by
   rcases q10 with rfl|rfl
   ·exact .inl ⟨by simp,by simp⟩
   ·exact .inr ⟨by simp,by simp⟩
  obtain⟨eqd,hqd⟩:∃ o,o=Z2 (m'+1) (.mk kd s a (.mk ts tl) [g]) bd qf st:=⟨_,rfl⟩
  have eqn:eqd=if st.types.length+1<=2000 then(match Z2 m' g (bd++[(st.types.length:Int)]) qf ⟨(st.add 1).m,st.types++[.mk ts tl],st.locals++[.mk ts tl]⟩ with
   | none=>none
   | some (x,st2)=>some (.mk kd { data:=#[] } [] (.mk ts tl) [x] st.types.length 0 [],st2)) else none:=by rw[hqd];simp only[Z2,Uf,gZ hc,ig q1,gZ q10];rfl
  rw[<- hqd]
  clear hqd
  have hgm:g∈[g]:=by simp
  have hsg:=hs2 g hgm
  rw[gZ q10] at hsg
  have hkg:=hkid g hgm
  have hdg:=hdk g hgm
  have hshg:=hkm g hgm
  have hslg:∀ n∈YQ (bd++[(st.types.length:Int)]) qf g 0,0<=n/\n<((st.types++[Ty.mk ts tl]).length:Int):=fun n hn=>by
   rw[ii,iq]
   rcases ST bd _ qf g 0 n hn with rfl|hn
   ·omega
   ·have:=hsl n (by
     simp only[YQ,gZ q10]
     exact mU _ (SS hgm hn))
    omega
  have hcp:=OQ (.mk ts tl)
  obtain⟨gk,gs,ga,⟨gts,gtl⟩,gl⟩:=g
  have hem:cN [Fm.mk gk gs ga (.mk gts gtl) gl]=[[vi gk,vs gs,.list .none 4 (cJ ga),vs gts,.list .none 2 (cI gtl),.list .none 6 (cN gl)]]:=by simp[dz,cM]
  simp only[cQ] at hcp
  have v1:=hF.sk.wt.one.1
  have v2:=hF.sk.wt.one.2
  have hln:=fun S' K=>hF.sk.wt.len_eq fa6 S' K
  rcases hz with⟨z10,z11⟩|⟨z10,z11⟩
  all_goals
   try simp only[go_sem,seval,z1,z10,z11,iV,iT,hem,g24,g7,v1,v2,hln,cG]
   refine hcp.use ?_
   try simp only[go_sem,seval,g7]
   have hF4:=hF.put [vi kd,.val (.string { data:=#[] }),.list .full 0 [],vs ts,.list .none 2 (cI tl),.list .full 0 [],vi ((st.add 1).types.length:Int),vi 0,.list .full 0 []]
   obtain⟨S4,hS4⟩:∃ S4:Store,S4=S3.set b7 (.cells [vi kd,.val (.string { data:=#[] }),.list .full 0 [],vs ts,.list .none 2 (cI tl),.list .full 0 [],vi ((st.add 1).types.length:Int),vi 0,.list .full 0 []]):=⟨_,rfl⟩
   rw[<- hS4] at hF4 ⊢
   clear hS4
   have g44:=hF4.sk.gs
   refine .cut [74,75,76,77,78,79,80,81,82,83,84,85] (fun fr' S'=>∃ vt2,FK σ (sO bm bs gv vt vl) S bm bs b6 b7 zG gv vt2 vl ⟨(st.add 1).m,st.types++[.mk ts tl],st.locals⟩ [vi kd,.val (.string { data:=#[] }),.list .full 0 [],vs ts,.list .none 2 (cI tl),.list .full 0 [],vi ((st.add 1).types.length:Int),vi 0,.list .full 0 []] (fun _=>False) S')
    (fun _ _=>False) ?_ ?_ (fun _ _ _ h=>h.elim)
   ·refine fw [82,95] 8 [74,75,76,77,78,79,80,81] [(74,[]),(75,[(0,74)]),(76,[(1,75)]),(77,[(2,76)]),(78,[]),(79,[(4,78)]),(80,[(3,77)]),(81,[])] [(0,74),(3,77),(5,79),(6,80),(7,81)] (fun i v S=>match i with
     | 0=>v=.val (.pointer (some ⟨bs,0,none⟩))
     | 1=>v=.val (.pointer (some ⟨bs,0,none⟩))
     | 2=>v=.val (.pointer (some ⟨bs,1,none⟩))
     | 3=>v=vt
     | 4=>v=.ro [vs ts,.list .none 2 (cI tl),.list .none 6 [[vi gk,vs gs,.list .none 4 (cJ ga),vs gts,.list .none 2 (cI gtl),.list .none 6 (cN gl)]]]
     | 5=>v=.agg [vs ts,.list .none 2 (cI tl)]
     | 6=>v=.val (.int .i64 st.types.length)
     | _=>v=.list .full 2 [[.val (.string { data:=#[] }),.list .full 0 []]]) (fun a b=>a=b) (fun S=>S=S4) 8 (.alt 9 (.alt 10 (.alt 11 (.alt 12 (.alt 13 .done .done) .done) .done) (.alt 11 (.alt 10 (.alt 12 (.alt 13 .done .done) .done) (.alt 12 (.alt 10 (.alt 13 .done .done) (.alt 13 (.alt 10 .done .done) .done)) .done)) .done)) (.alt 11 (.alt 9 (.alt 10 (.alt 12 (.alt 13 .done .done) .done) (.alt 12 (.alt 10 (.alt 13 .done .done) (.alt 13 (.alt 10 .done .done) .done)) .done)) (.alt 12 (.alt 9 (.alt 10 (.alt 13 .done .done) (.alt 13 (.alt 10 .done .done) .done)) (.alt 13 (.alt 9 (.alt 10 .done .done) .done) .done)) .done)) .done)) .done xy xy ?_ rfl ?_ ?_
    ·intro i v S S' hR h
     exact h
    ·refine wZ ?_
     refine⟨?_,?_,?_,?_,?_,?_,?_,?_,trivial⟩
     ·exact rN
     ·exact pQ
     ·exact pQ
     ·rintro fr S hk rfl ⟨h0,-⟩
      try simp only[go_sem,seval,h0,g44,v1,v2]
     ·rintro fr S hk rfl -
      have q4:=hk 4 rfl
      try simp only[go_sem,seval,q4]
     ·exact pQ
     ·rintro fr S hk rfl ⟨h0,-⟩
      try simp only[go_sem,seval,h0,hln,cG]
      rfl
     ·rintro fr S hk rfl -
      refine uw ?_
      rfl
    ·simp only[Yu,YK]
     rintro fr S' hk hS' ⟨h0,h3,h5,h6,h7,-⟩
     rw[hS']
     clear hS' S'
     try simp only[go_sem,seval,Wq,Vh,Wo,Xg,XY,WD,h0,h3,h5,h6,h7]
     refine hF4.sk.wt.app (ys:=[[.val (.string { data:=#[] }),.list .full 0 []]]) (ek _) xf (eB _) rfl (.inl rfl) fa7 fa8 fa9 AY (by rw[fa7];rfl) rfl xj (by rw[cG];simp only[GSt.add,ij,im];omega) hF4.has (fun vt2 S5 hw5 hk5 hH5=>?_)
     obtain⟨g45,hbs⟩:=hk5 _ _ g44 hF4.sk.nts
     obtain⟨b,cs,hb1,hb2,hb3,hb4,hb5,hb6,hb7⟩:=MB (l:=st.types) (t:=.mk ts tl) (Y:=[.val (.pointer (some ⟨bm,0,none⟩)),vt2,vl]) hw5 fa7 fa8 hbs hF4.sk.fs ⟨_,g45⟩ hH5
     have fin:∀ S'',(S''=(S5.set b (.cells (cs.take (st.types.length * 2)++((Ty.mk ts tl).emb++cs.drop (st.types.length * 2+2))))).set bs (.cells [.val (.pointer (some ⟨bm,0,none⟩)),vt2,vl])\/S''=(S5.set bs (.cells [.val (.pointer (some ⟨bm,0,none⟩)),vt2,vl])).set b (.cells (cs.take (st.types.length * 2)++((Ty.mk ts tl).emb++cs.drop (st.types.length * 2+2)))))->FK σ (sO bm bs gv vt vl) S bm bs b6 b7 zG gv vt2 vl ⟨(st.add 1).m,st.types++[.mk ts tl],st.locals⟩ [vi kd,.val (.string { data:=#[] }),.list .full 0 [],vs ts,.list .none 2 (cI tl),.list .full 0 [],vi ((st.add 1).types.length:Int),vi 0,.list .full 0 []] (fun _=>False) S'':=fun S'' hS=>by
      obtain⟨a1,a2,a3,a4,a5⟩:=hb7 S'' hS
      exact hF4.pushT hk5 hH5 hb1 hb2 a1 a2 a3 a4 a5 (by simp only[GSt.add];omega)
     have n1:=iU hb3
     have n2:=iU hb3.symm
     have w1:=hw5.one.1
     have w2:=hw5.one.2
     have hb5':=iS hb5
     simp only[cQ] at fin
     try simp only[go_sem,seval,Wq,Vh,Wo,Xg,XY,WD,h0,h5,h6,hb4,hb6,g45,n1,n2,w1,w2,hb5']
     repeat' apply And.intro
     all_goals first|exact .inl ⟨rfl,yP,vt2,fin _ (.inl rfl)⟩|exact .inl ⟨rfl,yP,vt2,fin _ (.inr rfl)⟩
   ·rintro fr' S5 hk0 ⟨vt2,hF5⟩
    have g55:=hF5.sk.gs
    have u1:=hF5.sk.wl.one.1
    have u2:=hF5.sk.wl.one.2
    have hlnl:=fun S' K=>hF5.sk.wl.len_eq fa6 S' K
    dsimp only at hlnl
    clear g44 hF4
    refine .cut [86,87,88,89,90,91,92,93,94,95,96,97,98] (fun fr' S'=>∃ vl2,FK σ (sO bm bs gv vt vl) S bm bs b6 b7 zG gv vt2 vl2 ⟨(st.add 1).m,st.types++[.mk ts tl],st.locals++[.mk ts tl]⟩ [vi kd,.val (.string { data:=#[] }),.list .full 0 [],vs ts,.list .none 2 (cI tl),.list .full 0 [],vi ((st.add 1).types.length:Int),vi 0,.list .full 0 []] (fun _=>False) S')
     (fun _ _=>False) ?_ ?_ (fun _ _ _ h=>h.elim)
    ·refine fw [82,95] 9 [86,87,88,89,90,91,92,93,94] [(86,[]),(87,[(0,86)]),(88,[(1,87)]),(89,[(2,88)]),(90,[]),(91,[(4,90)]),(92,[(5,91)]),(93,[(3,89)]),(94,[])] [(0,86),(3,89),(6,92),(7,93),(8,94)] (fun i v S=>match i with
      | 0=>v=.val (.pointer (some ⟨bs,0,none⟩))
      | 1=>v=.val (.pointer (some ⟨bs,0,none⟩))
      | 2=>v=.val (.pointer (some ⟨bs,2,none⟩))
      | 3=>v=vl
      | 4=>v=.ro [vs ts,.list .none 2 (cI tl),.list .none 6 [[vi gk,vs gs,.list .none 4 (cJ ga),vs gts,.list .none 2 (cI gtl),.list .none 6 (cN gl)]]]
      | 5=>v=.agg [vs ts,.list .none 2 (cI tl)]
      | 6=>v=.agg [vs ts,.list .none 2 (cI tl)]
      | 7=>v=.val (.int .i64 st.locals.length)
      | _=>v=.list .full 2 [[.val (.string { data:=#[] }),.list .full 0 []]]) (fun a b=>a=b) (fun S=>S=S5) 9 (.alt 10 (.alt 11 (.alt 12 (.alt 13 (.alt 14 .done .done) .done) .done) (.alt 12 (.alt 11 (.alt 13 (.alt 14 .done .done) .done) (.alt 13 (.alt 11 (.alt 14 .done .done) (.alt 14 (.alt 11 .done .done) .done)) .done)) .done)) (.alt 12 (.alt 10 (.alt 11 (.alt 13 (.alt 14 .done .done) .done) (.alt 13 (.alt 11 (.alt 14 .done .done) (.alt 14 (.alt 11 .done .done) .done)) .done)) (.alt 13 (.alt 10 (.alt 11 (.alt 14 .done .done) (.alt 14 (.alt 11 .done .done) .done)) (.alt 14 (.alt 10 (.alt 11 .done .done) .done) .done)) .done)) .done)) .done xy xy ?_ rfl ?_ ?_
     ·intro i v S S' hR h
      exact h
     ·refine wZ ?_
      refine⟨?_,?_,?_,?_,?_,?_,?_,?_,?_,trivial⟩
      ·rintro fr S hk rfl -
       have q0:=(hk 0 rfl).trans (hk0 0 rfl)
       try simp only[go_sem,seval,q0]
      ·exact pQ
      ·exact pQ
      ·rintro fr S hk rfl ⟨h0,-⟩
       try simp only[go_sem,seval,h0,g55,u1,u2]
      ·rintro fr S hk rfl -
       have q4:=(hk 4 rfl).trans (hk0 4 rfl)
       try simp only[go_sem,seval,q4]
      ·exact pQ
      ·rintro fr S hk rfl ⟨h0,-⟩
       refine wM ?_
       refine hcp.use ?_
       try simp only[go_sem,seval]
      ·rintro fr S hk rfl ⟨h0,-⟩
       try simp only[go_sem,seval,h0,hlnl,cG]
      ·rintro fr S hk rfl -
       refine uw ?_
       rfl
     ·simp only[Yu,YK]
      rintro fr S' hk hS' ⟨h0,h3,h6,h7,h8,-⟩
      rw[hS']
      clear hS' S'
      try simp only[go_sem,seval,Wq,Vh,Wo,Xg,XY,WD,h0,h3,h6,h7,h8]
      refine hF5.sk.wl.app (ys:=[[.val (.string { data:=#[] }),.list .full 0 []]]) (ek _) xf (eB _) rfl (.inl rfl) fa7 fa8 fa9 AY (by rw[fa7];rfl) rfl xj (by rw[cG];have:=hF5.sk.ll;have:=hF5.sk.tl;simp only[ij,im] at *;omega) hF5.has (fun vl2 S6 hw5 hk5 hH5=>?_)
      obtain⟨g45,hbs⟩:=hk5 _ _ g55 hF5.sk.nls
      obtain⟨b,cs,hb1,hb2,hb3,hb4,hb5,hb6,hb7⟩:=MB (l:=st.locals) (t:=.mk ts tl) (Y:=[.val (.pointer (some ⟨bm,0,none⟩)),vt2,vl2]) hw5 fa7 fa8 hbs hF5.sk.fs ⟨_,g45⟩ hH5
      have fin:∀ S'',(S''=(S6.set b (.cells (cs.take (st.locals.length * 2)++((Ty.mk ts tl).emb++cs.drop (st.locals.length * 2+2))))).set bs (.cells [.val (.pointer (some ⟨bm,0,none⟩)),vt2,vl2])\/S''=(S6.set bs (.cells [.val (.pointer (some ⟨bm,0,none⟩)),vt2,vl2])).set b (.cells (cs.take (st.locals.length * 2)++((Ty.mk ts tl).emb++cs.drop (st.locals.length * 2+2)))))->FK σ (sO bm bs gv vt vl) S bm bs b6 b7 zG gv vt2 vl2 ⟨(st.add 1).m,st.types++[.mk ts tl],st.locals++[.mk ts tl]⟩ [vi kd,.val (.string { data:=#[] }),.list .full 0 [],vs ts,.list .none 2 (cI tl),.list .full 0 [],vi ((st.add 1).types.length:Int),vi 0,.list .full 0 []] (fun _=>False) S'':=fun S'' hS=>by
       obtain⟨a1,a2,a3,a4,a5⟩:=hb7 S'' hS
       exact hF5.pushL hk5 hH5 hb1 hb2 a1 a2 a3 a4 a5 (by have:=hF.sk.ll;dsimp only[GSt.add] at this ⊢;rw[List.length_append,List.length_singleton];omega)
      have n1:=iU hb3
      have n2:=iU hb3.symm
      have w1:=hw5.one.1
      have w2:=hw5.one.2
      have hb5':=iS hb5
      simp only[cQ] at fin
      try simp only[go_sem,seval,Wq,Vh,Wo,Xg,XY,WD,h0,h6,h7,hb4,hb6,g45,n1,n2,w1,w2,hb5']
      repeat' apply And.intro
      all_goals first|exact .inl ⟨rfl,yP,vl2,fin _ (.inl rfl)⟩|exact .inl ⟨rfl,yP,vl2,fin _ (.inr rfl)⟩
    ·rintro fr2 S6 hk2 ⟨vl2,hF6⟩
     have w7:=hF6.go
     have w6:=hF6.gr
     have g66:=hF6.sk.gs
     have y1:=hF6.sk.wt.one.1
     have y2:=hF6.sk.wt.one.2
     have hln2:=fun S' K=>hF6.sk.wt.len_eq fa6 S' K
     dsimp only at hln2
     have q0:=(hk2 0 rfl).trans (hk0 0 rfl)
     have q4:=(hk2 4 rfl).trans (hk0 4 rfl)
     have q5:=(hk2 5 rfl).trans (hk0 5 rfl)
     have q6:=(hk2 6 rfl).trans (hk0 6 rfl)
     have q7':=(hk2 7 rfl).trans (hk0 7 rfl)
     refine wf ?_
     try simp only[go_sem,seval,q0,g66,y1,y2,hln2,cG]
     refine VR (fun hc2=>?_) (fun hc2=>?_)
     rotate_left
     ·simp only[lT,ii,iq] at hc2
      rw[eqn,ig xh]
      refine uw ?_
      exact .mk (.refl _) ⟨rfl,hF6.has,hF6.kp.pn0⟩
     simp only[kD,ii,iq] at hc2
     rw[eqn,gZ xh]
     have hcall:=hG (Fm.mk gk gs ga (.mk gts gtl) gl) bs (bd++[(st.types.length:Int)]) mq qf V gv vt2 vl2 ⟨(st.add 1).m,st.types++[.mk ts tl],st.locals++[.mk ts tl]⟩ S6 hF6.sk (hQF _ _ _ _ _ _ _ hF6) hm (by rw[List.length_append,List.length_singleton];exact hsg) hshg hdg xh (by rw[List.length_append,List.length_singleton];omega) hslg (by dsimp only;rw[List.length_append,List.length_singleton];omega)
     obtain⟨o2,ho2⟩:∃ o,o=Z2 m' (Fm.mk gk gs ga (.mk gts gtl) gl) (bd++[(st.types.length:Int)]) qf ⟨(st.add 1).m,st.types++[.mk ts tl],st.locals++[.mk ts tl]⟩:=⟨_,rfl⟩
     rw[<- ho2] at hcall ⊢
     simp only[cM] at hcall
     try simp only[go_sem,seval,q0,q4,q5,q7',w7,jq,jr]
     refine(JR bd mq ((st.add 1).types.length:Int) xh).head ?_
     try simp only[go_sem,seval,q0,q4,q5,q7',w7,jq,jr]
     refine hcall.mono ?_
     rintro r U hR
     cases o2 with
     | none =>
       obtain⟨rfl,hH2,hP2⟩:=hR
       refine uw ?_
       exact .mk (.refl _) ⟨rfl,hH2,hF6.kp.pn hP2⟩
     | some os =>
       obtain⟨x,st2⟩:=os
       obtain⟨rfl,gv3,vt3,vl3,hs3,hk3⟩:=hR
       have yF:=hF6.goal hs3 hk3
       have y7:=yF.go
       have y6:=yF.gr
       obtain⟨xk,xn,xa,⟨xts,xtl⟩,xl,xi,xg,xe⟩:=x
       simp only[cV]
       have n67:=iU yF.nro
       have zF:=yF.put [vi kd,.val (.string { data:=#[] }),.list .full 0 [],vs ts,.list .none 2 (cI tl),.list .full 9 [[vi xk,vs xn,.list .none 4 (cJ xa),vs xts,.list .none 2 (cI xtl),.list .none 9 (cY xl),vi xi,vi xg,.list .none 1 (Zu xe)]],vi ((st.add 1).types.length:Int),vi 0,.list .full 0 []]
       obtain⟨hS6,hK6⟩:=zF.out
       refine vR fun hem2=>?_
       refine xb ?_
       refine⟨rfl,?_⟩
       refine xb ?_
       exact .mk (Wkl.agg (s:=Zi.emb (.mk kd { data:=#[] } [] (.mk ts tl) [Zi.mk xk xn xa (.mk xts xtl) xl xi xg xe] st.types.length 0 [])) ⟨.refl _,.refl _,.nilN _ _,.refl _,.refl _,by rw[hem2];exact .list _ _ _,.refl _,.refl _,.nilN _ _,trivial⟩) (.refl _) ⟨rfl,gv3,vt3,vl3,hS6,hK6⟩
 have z10:(kd=10)=False:=iU fun e=>q10 (.inl e)
 have z11:(kd=11)=False:=iU fun e=>q10 (.inr e)
 by_cases q7:kd=7\/kd=8
 ·obtain⟨g,g',rfl⟩:∃ g h,l=[g,h]:=by rcases q7 with rfl|rfl<;>exact XI hkl
  have hz:((kd=7)=True/\(kd=8)=False)\/((kd=7)=False/\(kd=8)=True):=by
   rcases q7 with rfl|rfl
   ·exact .inl ⟨by simp,by simp⟩
   ·exact .inr ⟨by simp,by simp⟩
  obtain⟨eqd,hqd⟩:∃ o,o=Z2 (m'+1) (.mk kd s a (.mk ts tl) [g,g']) bd qf st:=⟨_,rfl⟩
  have eqn:eqd=match Xp (Z2 m') g bd qf st.types (st.add 1).m with
   | none=>none
   | some (at_,outer,m2)=>match Z2 m' g' bd qf { st with m:=m2 } with
     | none=>none
     | some (x,st2)=>some (.mk kd { data:=#[] } [] zTy [x] 0 at_ outer,st2):=by rw[hqd];simp only[Z2,Uf,gZ hc,ig q1,ig q10,gZ q7];rfl
  rw[<- hqd]
  clear hqd
  have hdk2:=NJ hdp
  have hkl2:∀ x∈[g,g'],∀ n∈YQ bd qf x 0,0<=n/\n<(st.types.length:Int):=fun x hx n hn=>hsl n (by
   simp only[YQ,ig q10]
   exact mU _ (SS hx hn))
  have hgm:g∈[g,g']:=by simp
  have hgm':g'∈[g,g']:=by simp
  have hsg:=hs2 g hgm
  have hsg':=hs2 g' hgm'
  rw[ig q10] at hsg hsg'
  have hkg:=hkid g hgm
  have hkg':=hkid g' hgm'
  have hgr:=Iw (Z2 m') σ bm m' hG hGm g bd mq qf V vt st.types gv (st.add 1).m S3 hF.sk.mkr (hQF _ _ _ _ _ _ _ hF) hm hsg (hkm g hgm) (hdk g hgm) xh xh (hkl2 g hgm) hF.sk.wt (fun b e e2=>e2.elim (fun e3=>hF.sk.ntm (e3 ▸ e)) (fun e3=>hF.sk.ngt b e3 e))
  obtain⟨o,ho⟩:∃ o,o=Xp (Z2 m') g bd qf st.types (st.add 1).m:=⟨_,rfl⟩
  rw[<- ho] at hgr eqn
  have hdg':=hdk g' hgm'
  have hshg':=hkm g' hgm'
  have hslg':=hkl2 g' hgm'
  obtain⟨gk,gs,ga,⟨gts,gtl⟩,gl⟩:=g
  obtain⟨gk',gs',ga',⟨gts',gtl'⟩,gl'⟩:=g'
  simp only[cM] at hgr
  have hem:cN [Fm.mk gk gs ga (.mk gts gtl) gl,Fm.mk gk' gs' ga' (.mk gts' gtl') gl']=[[vi gk,vs gs,.list .none 4 (cJ ga),vs gts,.list .none 2 (cI gtl),.list .none 6 (cN gl)],[vi gk',vs gs',.list .none 4 (cJ ga'),vs gts',.list .none 2 (cI gtl'),.list .none 6 (cN gl')]]:=by simp[dz,cM]
  rcases hz with⟨z7,z8⟩|⟨z7,z8⟩
  all_goals
   try simp only[go_sem,seval,z1,z10,z11,z7,z8,iV,iT,hem]
   refine .cut [121,122,123,124,125,126,127,128,129,130,131,132,133,134,135,136,137,138,139] (fun fr' S'=>∃ n outer m2 gv2,o=some (n,outer,m2)/\FK σ (sO bm bs gv vt vl) S bm bs b6 b7 zG gv2 vt vl ⟨m2,st.types,st.locals⟩ [vi kd,.val (.string { data:=#[] }),.list .full 0 [],.val (.string { data:=#[] }),.list .full 0 [],.list .full 0 [],vi 0,vi n,.list .none 1 (Zu outer)] (fun _=>False) S')
    (fun pv S'=>o=none/\pv=Y5 2/\Has σ S'/\Pn (sO bm bs gv vt vl) S S') ?_ ?_ ?_
   ·refine fw [82,95] 13 [122,123,124,125,126,127,128,129,130,131,132,133,134] [(122,[]),(123,[(0,122)]),(124,[(1,123)]),(125,[(2,124)]),(126,[]),(127,[(4,126)]),(128,[(5,127)]),(129,[(6,128)]),(130,[]),(131,[]),(132,[(9,131)]),(133,[(10,132)]),(134,[(11,133)])] [(3,125),(7,129),(8,130),(12,134)] (fun i v S=>match i with
     | 0=>v=.val (.pointer (some ⟨bs,0,none⟩))
     | 1=>v=.val (.pointer (some ⟨bs,0,none⟩))
     | 2=>v=.val (.pointer (some ⟨bs,0,none⟩))
     | 3=>v=.val (.pointer (some ⟨bm,0,none⟩))
     | 4=>v=.ro [.list .none 6 [[vi gk,vs gs,.list .none 4 (cJ ga),vs gts,.list .none 2 (cI gtl),.list .none 6 (cN gl)],[vi gk',vs gs',.list .none 4 (cJ ga'),vs gts',.list .none 2 (cI gtl'),.list .none 6 (cN gl')]]]
     | 5=>v=.list .none 6 [[vi gk,vs gs,.list .none 4 (cJ ga),vs gts,.list .none 2 (cI gtl),.list .none 6 (cN gl)],[vi gk',vs gs',.list .none 4 (cJ ga'),vs gts',.list .none 2 (cI gtl'),.list .none 6 (cN gl')]]
     | 6=>v=.ro [vi gk,vs gs,.list .none 4 (cJ ga),vs gts,.list .none 2 (cI gtl),.list .none 6 (cN gl)]
     | 7=>v=.agg [vi gk,vs gs,.list .none 4 (cJ ga),vs gts,.list .none 2 (cI gtl),.list .none 6 (cN gl)]
     | 8=>v=.agg [.list .none 1 (Zu bd),.val (.map mq)]
     | 9=>v=.val (.pointer (some ⟨bs,0,none⟩))
     | 10=>v=.val (.pointer (some ⟨bs,0,none⟩))
     | 11=>v=.val (.pointer (some ⟨bs,1,none⟩))
     | _=>v=vt) (fun a b=>a=b) (fun S=>S=S3) 13 (.alt 14 (.alt 15 (.alt 16 (.alt 17 (.alt 18 (.alt 19 (.alt 20 .done .done) .done) .done) .done) (.alt 17 (.alt 16 (.alt 18 (.alt 19 (.alt 20 .done .done) .done) .done) (.alt 18 (.alt 16 (.alt 19 (.alt 20 .done .done) .done) .done) .done)) .done)) (.alt 16 (.alt 15 (.alt 17 (.alt 18 (.alt 19 (.alt 20 .done .done) .done) .done) .done) .done) .done)) .done) .done xy xy ?_ rfl ?_ ?_
    ·intro i v S S' hR h
     exact h
    ·refine wZ ?_
     refine⟨?_,?_,?_,?_,?_,?_,?_,?_,?_,?_,?_,?_,?_,trivial⟩
     ·exact rN
     ·exact pE
     ·exact pE
     ·rintro fr S hk rfl ⟨h0,-⟩
      try simp only[go_sem,seval,h0,g24]
     ·rintro fr S hk rfl -
      have q4:=hk 4 rfl
      try simp only[go_sem,seval,q4]
     ·exact pE
     ·exact pE
     ·exact pE
     ·rintro fr S hk rfl -
      have q5:=hk 5 rfl
      try simp only[go_sem,seval,q5]
     ·exact rN
     ·exact pE
     ·exact pE
     ·rintro fr S hk rfl ⟨h0,-⟩
      try simp only[go_sem,seval,h0,g24]
    ·simp only[Yu,YK]
     rintro fr S' hk hS' ⟨h3,h7,h8,h12,-⟩
     rw[hS']
     clear hS' S'
     have q7':=hk 7 rfl
     try simp only[go_sem,seval,Wq,Vh,Wo,Xg,XY,WD,h3,h7,h8,h12]
     refine hgr.mono ?_
     rintro r U hR
     cases o with
     | none =>
       obtain⟨rfl,hH2,hP2⟩:=hR
       try simp only[go_sem,seval,Wq,Vh,Wo,Xg,XY,WD]
       exact .inr ⟨_,rfl,rfl,hH2,hF.kp.pn (hP2.imp fun _ e=>.inl e)⟩
     | some os =>
       obtain⟨n,outer,m2⟩:=os
       obtain⟨rfl,gv2,hm2,hk2⟩:=hR
       have wF:=hF.goal (hF.sk.step hm2 hk2) hk2.up
       have w7:=wF.go
       try simp only[go_sem,seval,Wq,Vh,Wo,Xg,XY,WD,q7',w7]
       have yF:=wF.put [vi kd,.val (.string { data:=#[] }),.list .full 0 [],.val (.string { data:=#[] }),.list .full 0 [],.list .full 0 [],vi 0,vi n,.list .none 1 (Zu outer)]
       refine⟨⟨?_,?_,?_⟩,?_⟩<;>exact .inl ⟨rfl,yP,n,outer,m2,gv2,rfl,yF⟩
   ·rintro fr' S4 hk ⟨n,outer,m2,gv2,rfl,wF⟩
    have w7:=wF.go
    have w6:=wF.gr
    have q0:=hk 0 rfl
    have q4:=hk 4 rfl
    have q5:=hk 5 rfl
    have q6:=hk 6 rfl
    have q7':=hk 7 rfl
    dsimp only at eqn
    have hcall:=hG (Fm.mk gk' gs' ga' (.mk gts' gtl') gl') bs bd mq qf V gv2 vt vl ⟨m2,st.types,st.locals⟩ S4 wF.sk (hQF _ _ _ _ _ _ _ wF) hm hsg' hshg' hdg' xh xh hslg' htl
    obtain⟨o2,ho2⟩:∃ o,o=Z2 m' (Fm.mk gk' gs' ga' (.mk gts' gtl') gl') bd qf ⟨m2,st.types,st.locals⟩:=⟨_,rfl⟩
    have eqn:eqd=match(generalizing:=false) o2 with
     | none=>none
     | some (x,st2)=>some (.mk kd { data:=#[] } [] zTy [x] 0 n outer,st2):=by rw[eqn,ho2]
    rw[<- ho2] at hcall
    simp only[cM] at hcall
    refine wf ?_
    try simp only[go_sem,seval,q0,q4,q5,w7,jq,jr]
    refine hcall.mono ?_
    rintro r U hR
    cases o2 with
    | none =>
      obtain⟨rfl,hH2,hP2⟩:=hR
      rw[eqn]
      refine uw ?_
      exact .mk (.refl _) ⟨rfl,hH2,wF.kp.pn hP2⟩
    | some os =>
      obtain⟨x,st2⟩:=os
      obtain⟨rfl,gv3,vt3,vl3,hs3,hk3⟩:=hR
      rw[eqn]
      have yF:=wF.goal hs3 hk3
      have y7:=yF.go
      have y6:=yF.gr
      obtain⟨xk,xn,xa,⟨xts,xtl⟩,xl,xi,xg,xe⟩:=x
      simp only[cV]
      have n67:=iU yF.nro
      have zF:=yF.put [vi kd,.val (.string { data:=#[] }),.list .full 0 [],.val (.string { data:=#[] }),.list .full 0 [],.list .full 9 [[vi xk,vs xn,.list .none 4 (cJ xa),vs xts,.list .none 2 (cI xtl),.list .none 9 (cY xl),vi xi,vi xg,.list .none 1 (Zu xe)]],vi 0,vi n,.list .none 1 (Zu outer)]
      obtain⟨hS6,hK6⟩:=zF.out
      refine vR fun hem2=>?_
      refine xb ?_
      refine⟨rfl,?_⟩
      refine xb ?_
      exact .mk (Wkl.agg (s:=Zi.emb (.mk kd { data:=#[] } [] zTy [Zi.mk xk xn xa (.mk xts xtl) xl xi xg xe] 0 n outer)) ⟨.refl _,.refl _,.nilN _ _,.refl _,.nilN _ _,by rw[hem2];exact .list _ _ _,.refl _,.refl _,.refl _,trivial⟩) (.refl _) ⟨rfl,gv3,vt3,vl3,hS6,hK6⟩
   ·rintro pv fr' S4 ⟨rfl,rfl,hH,hP⟩
    rw[eqn]
    refine uw ?_
    exact .mk (.refl _) ⟨rfl,hH,hP⟩
 have z7:(kd=7)=False:=iU fun e=>q7 (.inl e)
 have z8:(kd=8)=False:=iU fun e=>q7 (.inr e)
 try simp only[go_sem,seval,z1,z10,z11,z7,z8,iV,iT]
 obtain⟨eqd,hqd⟩:∃ o,o=Z2 (m'+1) (.mk kd s a (.mk ts tl) l) bd qf st:=⟨_,rfl⟩
 have eqn:eqd=match YS (fun g st=>Z2 m' g bd qf st) l (st.add 1) with
  | none=>none
  | some (xs,st2)=>some (.mk kd { data:=#[] } [] zTy xs 0 0 [],st2):=by rw[hqd];simp only[Z2,Uf,gZ hc,ig q1,ig q10,ig q7];rfl
 rw[<- hqd]
 clear hqd
 have hdk2:=NJ hdp
 have hkl2:∀ g∈l,∀ n∈YQ bd qf g 0,n∈YQ bd qf (.mk kd s a (.mk ts tl) l) 0:=fun g hg n hn=>by
  simp only[YQ,ig q10]
  exact mU _ (SS hg hn)
 have hF:=hF.tip (T':=Tp (.list .full 0 [])) (fun k e=>by simp[Tp,Ym] at e)
 obtain⟨st0,hst0⟩:∃ st0:GSt,st0=st.add 1:=⟨_,rfl⟩
 have hX0:=WP (fun g st=>Z2 m' g bd qf st) l st0
 have hty0:st.types.length<=st0.types.length/\st0.types.length<=60000:=by rw[hst0];exact⟨kO _,htl⟩
 rw[<- hst0] at hF eqn
 clear hst0
 refine Zp (mu:=[82,95]) (dr:=[(7,7,8),(14,7,8),(20,1000,0),(21,1000,0),(23,9,0),(26,1000,0),(27,6,0)]) [11,25,26,27,28,29,30,31,32,33,34,35,36,37,38] (fun x:Nat×AV×(AV×AV×AV)×GSt×List Zi×Store=>[(25,vi x.1)]) (fun x=>x.2.2.2.2.2)
  (fun x=>x.1<=l.length/\FK σ (sO bm bs gv vt vl) S bm bs b6 b7 zG x.2.2.1.1 x.2.2.1.2.1 x.2.2.1.2.2 x.2.2.2.1 [vi kd,.val (.string { data:=#[] }),.list .full 0 [],.val (.string { data:=#[] }),.list .full 0 [],x.2.1,vi 0,vi 0,.list .full 0 []] (Tp x.2.1) x.2.2.2.2.2 /\
   LV σ x.2.2.2.2.2 x.2.1 9 (cY x.2.2.2.2.1)/\YS (fun g st=>Z2 m' g bd qf st) l st0=Wi (fun g st=>Z2 m' g bd qf st) x.2.2.2.2.1 (l.drop x.1) x.2.2.2.1/\x.2.2.2.2.1.length=x.1/\st.types.length<=x.2.2.2.1.types.length/\x.2.2.2.1.types.length<=60000) (fun x=>l.length-x.1)
  (0,.list .full 0 [],(gv,vt,vl),st0,[],S3) xy ⟨by omega,hF,LV.nil _ _ _,hX0,rfl,hty0⟩ ⟨.refl _,trivial⟩ (.refl _) ?_
 clear hF hX0 hty0 g7 g24
 rintro⟨j,vg,⟨gv',vt',vl'⟩,st',done,T⟩ ⟨hj,hF,hL,hX,hdl,hty⟩
 dsimp only at hj hF hL hX hdl hty
 refine vy fun x0=>?_
 by_cases c:j<l.length
 ·refine we fun x1=>?_
  obtain⟨g,hp⟩:∃ t,l[j]?=some t:=⟨l[j],iO c⟩
  have hmg:=iG hp
  have hkg:=hkid g hmg
  have gt:(cN l)[j]?=some g.emb:=by rw[dz,jp,hp];rfl
  refine uV fun hw=>?_
  rw[drop_at hp] at hX
  have hcall:=hG g bs bd mq qf V gv' vt' vl' st'
  obtain⟨o,ho⟩:∃ o,o=Z2 m' g bd qf st':=⟨_,rfl⟩
  rw[<- ho] at hcall
  have hsg:=hs2 g hmg
  rw[ig q10] at hsg
  have hshg:=hkm g hmg
  have hdpg:=hdk g hmg
  have hslg:=hkl2 g hmg
  obtain⟨pk,ps,pa,⟨pts,ptl⟩,pl⟩:=g
  simp only[cM] at gt hcall
  try simp only[go_sem,seval,cU,x0,x1,gt,iT,iF,jq,jr,jt]
  intro b11 hb11
  obtain⟨U,hU⟩:∃ U:Store,U=(b11,AObj.cells [vi pk,vs ps,.list .none 4 (cJ pa),vs pts,.list .none 2 (cI ptl),.list .none 6 (cN pl)])::T:=⟨_,rfl⟩
  have u11:U.get b11=some (.cells [vi pk,vs ps,.list .none 4 (cJ pa),vs pts,.list .none 2 (cI ptl),.list .none 6 (cN pl)]):=by rw[hU];exact Ze _ _ _
  have uF:=hF.cons hb11 (.cells [vi pk,vs ps,.list .none 4 (cJ pa),vs pts,.list .none 2 (cI ptl),.list .none 6 (cN pl)])
  have uL:=hL.cons hb11 (.cells [vi pk,vs ps,.list .none 4 (cJ pa),vs pts,.list .none 2 (cI ptl),.list .none 6 (cN pl)])
  have o11:¬ sO bm bs gv' vt' vl' b11:=fun e=>by obtain⟨c,hc⟩:=hF.sk.own b11 e;rw[Zj hb11] at hc;cases hc
  rw[<- hU] at uF uL ⊢
  clear hU hb11 hF hL
  have u7:=uF.go
  try simp only[go_sem,seval,u7,u11,uL.one,uL.cells]
  refine(hcall U uF.sk (hQF _ _ _ _ _ _ _ uF) hm hsg hshg hdpg xh xh (fun n hn=>by have:=hsl n (hslg n hn);omega) xh).mono ?_
  rintro r U2 hR
  cases o with
  | none =>
    obtain⟨rfl,hH2,hP2⟩:=hR
    refine uw ?_
    intro fr'
    refine uw ?_
    rw[Vq (f:=fun g st=>Z2 m' g bd qf st) ho.symm] at hX
    rw[eqn,hX]
    exact .mk (.refl _) ⟨rfl,hH2,uF.kp.pn hP2⟩
  | some xs =>
    obtain⟨x,st2⟩:=xs
    obtain⟨rfl,gv2,vt2,vl2,hs2',hk2⟩:=hR
    have hmo:=hGm _ _ _ _ _ _ ho.symm
    rw[WB (f:=fun g st=>Z2 m' g bd qf st) ho.symm] at hX
    have wF:=uF.goal hs2' hk2
    have wL:=uL.fk uF.sk hk2
    have w11:=(hk2 _ _ u11 o11).1
    have w7:=wF.go
    have hfe:cY (done++[x])=cY done++[x.emb]:=by simp[dP]
    obtain⟨xk,xn,xa,⟨xts,xtl⟩,xl,xi,xg,xe⟩:=x
    simp only[cV] at hfe ⊢
    clear uF uL u11 u7 hk2 hs2' o11
    try simp only[go_sem,seval,w7,w11,wL.one,wL.cells]
    refine⟨rfl,wL.appT rfl xj (by rw[cH];simp only[ij,im];omega) rfl xf wF.has (fun v1 S1 hv1 hT1 hS1=>?_)⟩
    have yF:=wF.app (T':=Tp v1) wL hT1 hS1 (fun _ e=>e) (fun _ e=>.inr e)
    have y7:=yF.go
    rw[<- hfe] at hv1
    clear wF wL hT1 hS1 w11 w7 hfe
    try simp only[go_sem,seval,y7,hw,hv1.one,hv1.cells]
    exact .mk (j+1,v1,(gv2,vt2,vl2),st2,done++[Zi.mk xk xn xa (.mk xts xtl) xl xi xg xe],S1.set b7 (.cells [vi kd,.val (.string { data:=#[] }),.list .full 0 [],.val (.string { data:=#[] }),.list .full 0 [],v1,vi 0,vi 0,.list .full 0 []]))
     ⟨by omega,yF.put _,hv1.set y7 xf _,hX,by simp[hdl],by dsimp only;omega⟩ xX ⟨.refl _,trivial⟩ yS (.refl _)
 have x1:((j:Int)<(l.length:Int))=False:=iU xh
 rw[show l.drop j=[] from lX xh,V8] at hX
 rw[eqn,hX]
 have wr:=hL.wk
 have wr1:=hL.one
 have wr2:=hL.cells
 have h7:=hF.go
 have h6:=hF.gr
 obtain⟨hS6,hK6⟩:=hF.out
 try simp only[go_sem,seval,cU,x0,x1,iV,h7,h6]
 exact⟨wr1,.mk (Wkl.agg (s:=Zi.emb (.mk kd { data:=#[] } [] zTy done 0 0 [])) ⟨.refl _,.refl _,.nilN _ _,.refl _,.nilN _ _,wr,.refl _,.refl _,.nilN _ _,trivial⟩) (.refl _) ⟨rfl,gv',vt',vl',hS6,hK6⟩⟩
open Go.Proofs Go.RowKit
theorem Hm{α β σ:Type}(f:α->σ->nM (β×σ))(R:σ->σ->Prop)(hr:∀ s,R s s)(ht:∀ a b c,R a b->R b c->R a c)(h:∀ a s b s',f a s=some (b,s')->R s s'):∀ (l:List α) (s:σ) (bs:List β) (s':σ),YS f l s=some (bs,s')->R s s':=by
 intro l
 induction l with
 | nil=>intro s bs s' e;simp only[YS,jq,lE] at e;rw[<- e.2];exact hr s
 | cons a r ih =>
   intro s bs s' e
   simp only[YS] at e
   split at e
   ·cases e
   ·rename_i b s1 h1
    split at e
    ·cases e
    ·rename_i bs2 s2 h2
     simp only[jq,lE] at e
     rw[<- e.2]
     exact ht _ _ _ (h _ _ _ _ h1) (ih _ _ _ h2)
theorem Le{G:GoalF}(hG:GQ G){f:Fm}{bd:List Int}{qf:QF}{types:List Ty}{m m':MSt}{n:Int}{o:List Int}(h:Xp G f bd qf types m=some (n,o,m')):m.gs.length<=m'.gs.length:=by
 unfold Xp at h
 split at h
 ·split at h
  ·cases h
  ·rename_i alts m2 h2
   simp only[jq,lE] at h
   have:=Re (fun(m:MSt)=>m.gs.length) (fun a s b s' e=>Sv hG e) _ _ _ _ h2
   dsimp only at this
   rw[ii] at this
   rw[<- h.2.2]
   simp only[List.length_set]
   omega
 ·cases h
abbrev GLe (a b:GSt):Prop:=a.types.length<=b.types.length/\a.m.gs.length<=b.m.gs.length/\(a.types.length<=60000->b.types.length<=60000)
theorem TU:∀ k,GQ (Z2 k)
 | 0=>by intro f bd qf st x st' h;simp[Z2] at h
 | k+1=>by
   have ih:=TU k
   intro f bd qf st x st' h
   obtain⟨kd,s,a,t,l⟩:=f
   simp only[Z2] at h
   split at h
   ·cases h
   rename_i m1 h1
   have e1:=R9 h1
   split at h
   ·split at h
    ·cases h
    ·rename_i m2 h2
     have e2:=R9 h2
     simp only[jq,lE] at h
     rw[<- h.2]
     refine⟨kO _,?_,fun h=>h⟩
     dsimp only
     rw[e2,e1]
     exact kO _
   split at h
   ·split at h
    ·cases h
    ·split at h
     ·split at h
      ·cases h
      ·rename_i x2 st2 h2
       simp only[jq,lE] at h
       obtain⟨i1,i2,i3⟩:=ih _ _ _ _ _ _ h2
       simp only[ii,iq] at i1 i3
       dsimp only at i2
       rw[<- h.2,<- e1]
       exact⟨by omega,i2,fun _=>i3 xh⟩
     ·cases h
   split at h
   ·split at h
    ·split at h
     ·cases h
     ·rename_i at_ outer m2 h2
      have e2:=Le ih h2
      split at h
      ·cases h
      ·rename_i x2 st2 h3
       simp only[jq,lE] at h
       obtain⟨i1,i2,i3⟩:=ih _ _ _ _ _ _ h3
       dsimp only at i1 i2 i3
       rw[<- h.2]
       rw[e1] at e2
       exact⟨i1,by omega,i3⟩
    ·cases h
   ·split at h
    ·cases h
    ·rename_i xs st2 h2
     simp only[jq,lE] at h
     have:=Hm (fun g st=>Z2 k g bd qf st) GLe (fun _=>⟨kO _,kO _,fun h=>h⟩) (fun a b c h1 h2=>⟨lj h1.1 h2.1,lj h1.2.1 h2.2.1,fun h=>h2.2.2 (h1.2.2 h)⟩) (fun a s b s' e=>ih _ _ _ _ _ _ e) _ _ _ _ h2
     obtain⟨i1,i2,i3⟩:=this
     dsimp only at i1 i2 i3
     rw[<- h.2]
     rw[e1] at i2
     exact⟨i1,i2,i3⟩
theorem Lf(σ:Store)(bm:Nat):∀ k,GlC σ bm k (Z2 k)
 | 0=>by
   intro f bs bd mq qf V gv vt vl st S h hQ hm hsc hshp hdp
   obtain⟨kd,s,a,t,l⟩:=f
   simp[Fm.shape,dpB] at hdp
 | k+1=>HZ k σ bm (Lf σ bm k) (TU k)
end Go.Vx
end
