/- A part of the proof of clausalSpinesProved. -/
import Derived.Test.YtllgjklcpieanaaGreatDoorR41
import Derived.Test.YtllgjklcpieanaaGreatDoorR22
import Derived.Test.YtllgjklcpieanaaGreatDoorR43
set_option linter.unusedVariables false
set_option linter.unusedSimpArgs false
set_option maxRecDepth 100000
namespace Go.Vx
open Go.Proofs Go.RowKit
structure RJ1 (σ:Store) (bm:Nat) (gv0 gv:AV) (m:MSt) (S0:Store) (b11:Nat) (mq:Option Nat) (qf:QF) (tv:AV) (types:List Ty) (q:List Int) (S:Store):Prop where
 mkr:MK σ bm gv m S
 g11:∃ v,S.get b11=some (.cells [v])/\LV σ S v 1 (Zu (q.foldl XJ []))/\Kp (mO bm gv0) (Or (mO bm gv) (Tp v)) S0 S
 wt:MW σ 2 S tv (cI types)
 qm:QM S mq qf
theorem RJ1.cons{σ:Store}{bm:Nat}{gv0 gv:AV}{m:MSt}{S0:Store}{b11:Nat}{mq:nM Nat}{qf:QF}{tv:AV}{types:List Ty}{q:List Int}{S:Store}(h:RJ1 σ bm gv0 gv m S0 b11 mq qf tv types q S){b:Nat}(hb:Zm S b)(x:AObj):RJ1 σ bm gv0 gv m S0 b11 mq qf tv types q ((b,x)::S):=by
 obtain⟨v,g,hl,hk⟩:=h.g11
 exact{ mkr:=h.mkr.kc (.cons hb x) (h.mkr.has.cons _),g11:=⟨v,by rw[Zg hb xA];exact g,hl.cons hb x,hk.cons hb x⟩,wt:=h.wt.cell fun b' c _ hc=>KC.cons hb x _ _ hc,qm:=h.qm.keep fun r m c hr=>by rw[Zg hb xF];exact hr }
theorem RJ1.raw{σ:Store}{bm:Nat}{gv0 gv:AV}{m:MSt}{S0:Store}{b11:Nat}{mq:nM Nat}{qf:QF}{tv:AV}{types:List Ty}{q:List Int}{S:Store}(h:RJ1 σ bm gv0 gv m S0 b11 mq qf tv types q S){l:Nat}{r:Obj}(g:S.get l=some (.raw r))(hf:Zm σ l)(hn:NB (mO bm gv0) S0 l)(x:AObj):RJ1 σ bm gv0 gv m S0 b11 mq qf tv types q (S.set l x):=by
 obtain⟨v,g1,hl,hk⟩:=h.g11
 have kk:∀ k y,S.get k=some y->(∀ r,y≠.raw r)->(S.set l x).get k=some y:=fun k y hk hy=>by rw[Za (fun e=>by rw[e,g] at hk;injection hk with hk;exact hy _ hk.symm)];exact hk
 exact{ mkr:=h.mkr.kc (fun k c hk=>kk _ _ hk xf) (h.mkr.has.set hf _),g11:=⟨v,kk _ _ g1 xf,hl.set g xf x,hk.setN hn x⟩,wt:=h.wt.cell fun b' c _ hc=>kk _ _ hc xf,qm:=h.qm.keep fun r m c hr=>kk _ _ hr xf }
structure RJ (σ:Store) (bm:Nat) (gv0 gv:AV) (m:MSt) (S0:Store) (b11 bs bf:Nat) (bd:List Int) (mq:Option Nat) (qf:QF) (f:Fm) (tv:AV) (types:List Ty) (q:List Int) (S:Store):Prop where
 j:RJ1 σ bm gv0 gv m S0 b11 mq qf tv types q S
 gs:S.get bs=some (.cells [.list .none 1 (Zu bd),.val (.map mq)])
 gf:S.get bf=some (.cells f.emb)
theorem RJ1.up{σ:Store}{bm:Nat}{gv0 gv:AV}{m:MSt}{S0:Store}{b11 bs bf:Nat}{bd:List Int}{f:Fm}{mq:nM Nat}{qf:QF}{tv:AV}{types:List Ty}{q:List Int}{S:Store}(h:RJ1 σ bm gv0 gv m S0 b11 mq qf tv types q S)(h1:S.get bs=some (.cells [.list .none 1 (Zu bd),.val (.map mq)]))(h2:S.get bf=some (.cells f.emb)):RJ σ bm gv0 gv m S0 b11 bs bf bd mq qf f tv types q S:=⟨h,h1,h2⟩
theorem RJ.same{σ:Store}{bm:Nat}{gv0 gv:AV}{m:MSt}{S0:Store}{b11 bs bf:Nat}{bd:List Int}{f:Fm}{mq:nM Nat}{qf:QF}{tv:AV}{types:List Ty}{q:List Int}{a:Int}{S:Store}(h:RJ σ bm gv0 gv m S0 b11 bs bf bd mq qf f tv types q S)
 (hc:(q.foldl XJ []).contains a=true):RJ σ bm gv0 gv m S0 b11 bs bf bd mq qf f tv types (q++[a]) S:=by
 obtain⟨v,g1,hl,hk⟩:=h.j.g11
 exact⟨{ h.j with g11:=⟨v,g1,by rw[List.foldl_append];simp only[lQ,List.foldl_nil,XJ,hc,iE];exact hl,hk⟩ },h.gs,h.gf⟩
theorem RJ.push{σ:Store}{bm:Nat}{gv0 gv:AV}{m:MSt}{S0:Store}{b11 bs bf:Nat}{bd:List Int}{f:Fm}{mq:nM Nat}{qf:QF}{tv:AV}{types:List Ty}{q:List Int}{a:Int}{S S':Store}{v v':AV}(h:RJ σ bm gv0 gv m S0 b11 bs bf bd mq qf f tv types q S)
 (g:S.get b11=some (.cells [v])) (hL:LV σ S v 1 (Zu (q.foldl XJ []))) (hK:Kp (mO bm gv0) (Or (mO bm gv) (Tp v)) S0 S) (hv:LV σ S' v' 1 (Zu (XJ (q.foldl XJ []) a))) (hT:Tn [] v v' S S') (hH:Has σ S')
 (o11:¬ mO bm gv b11) (f11:Zm σ b11) (nb:NB (mO bm gv0) S0 b11) (nT:blk tv≠some b11):RJ σ bm gv0 gv m S0 b11 bs bf bd mq qf f tv types (q++[a]) (S'.set b11 (.cells [v'])):=by
 have kc:=hT.kc hL
 have g':=kc _ _ g
 have kq:=hT.kept hL
 have cell:∀ b c,b≠b11->S.get b=some (.cells c)->(S'.set b11 (.cells [v'])).get b=some (.cells c):=fun b c hne hc=>by rw[Za hne];exact kc _ _ hc
 refine⟨{ mkr:=h.j.mkr.at (fun b c hb hc=>cell b c (fun e=>o11 yd) hc) (hH.set f11 _),g11:=⟨v',Zd g',?_,(hK.tn hT).setN nb _⟩,wt:=h.j.wt.cell fun b c hb hc=>cell b c (fun e=>nT yd) hc,qm:=h.j.qm.keep fun r m c hr=>?_ },cell _ _ (fun e=>?_) h.gs,cell _ _ (fun e=>?_) h.gf⟩
 ·rw[List.foldl_append];exact hv.set g' xf _
 ·rw[Za (fun e=>by rw[e,g] at hr;cases hr)];exact kq _ _ hr xf
 ·have:=h.gs;rw[e,g] at this;simp at this
 ·have:=h.gf;rw[e,g] at this
  have h2:=je (fun x=>match x with|some (AObj.cells c)=>c.length|_=>0) this
  obtain⟨k,s,a,⟨ts,tl⟩,l⟩:=f
  simp[cM] at h2
theorem Iw(G:GoalF)(σ:Store)(bm D:Nat)(hG:GlC σ bm D G)(hGm:GQ G)(f:Fm)(bd:List Int)(mq:nM Nat)(qf:QF)(V:Nat)(tv:AV)(types:List Ty)(gv:AV)(m:MSt)(S:Store)
 (h:MK σ bm gv m S) (hQ:QM S mq qf) (hm:mq=none->V=0) (hsc:scF V f bd.length=true) (hshp:Xy f=true) (hdp:dpB f.shape D=false) (hnd:f.shape.nds<=4000) (hbd:bd.length+3 * f.shape.nds<=50000) (hsl:∀ n∈YQ bd qf f 0,0<=n/\n<(types.length:Int))
 (hT:MW σ 2 S tv (cI types)) (hTn:∀ b,blk tv=some b->¬ mO bm gv b) :
 Zh nC 77 [.val (.pointer (some ⟨bm,0,none⟩)),.agg f.emb,.agg [.list .none 1 (Zu bd),.val (.map mq)],tv] S (GrR σ bm gv S (Xp G f bd qf types m)):=by
 have hslo:=fun σ=>Cd f bd mq σ
 have hIt:=fun bs bf=>G0 bs bf bd mq qf V f hm xh hsc xh
 have hdr:∀ (q:nM Nat) (env:Nat) (d:Dr) (S:Store),Xy f=true->d.len+3 * f.shape.nds<=900000->env<=1000000->Zh nC 138 [.agg f.emb,vi env,.agg (d.emb q)] S (DfR q S (drS f env d)):=fun q env d S a b c=>EW q f env d S a b c
 obtain⟨es',hgw,hew⟩:=h.gw
 have hgl:es'.length=m.gs.length:=by rw[hew.1,cL]
 have hgl2:=h.gl
 obtain⟨f0,hf0⟩:∃ f0,f0=f:=⟨_,rfl⟩
 rw[<- hf0] at hslo hIt hdr hsc hshp hdp hnd hbd hsl ⊢
 obtain⟨fk,fs,fa,⟨fts,ftl⟩,fl⟩:=f
 have hfe:f0.emb=[vi fk,vs fs,.list .none 4 (cJ fa),vs fts,.list .none 2 (cI ftl),.list .none 6 (cN fl)]:=by rw[hf0];rfl
 simp only[hfe] at hslo hdr ⊢
 refine JG Tryz.func77 rfl xy ?_
 rw[Tryz.ntmps77,Tryz.results77]
 refine vm ?_
 refine uw ?_
 have gm:=h.gm
 simp only[ZW]
 refine vm ?_
 have hln:=fun S' K=>hgw.len_eq cx S' K
 rw[hgl] at hln
 try simp only[go_sem,seval,gm,hln]
 refine VR (fun hc=>?_) (fun hc=>?_)
 rotate_left
 ·have eN:Xp G f0 bd qf types m=none:=by unfold Xp;rw[ig (by have:=hc;simp only[lT,kD] at this;omega)]
  rw[eN]
  refine uw ?_
  simp only[ZW,Sn]
  exact⟨S,.refl _,rfl,h.has,.refl _ _⟩
 have hc':m.gs.length<1000:=by have:=hc;simp only[lT,kD] at this;omega
 refine uw ?_
 simp only[ZW]
 refine vm ?_
 try simp only[go_sem,seval,gm,hln]
 simp only[ZW]
 refine vm ?_
 try simp only[go_sem,seval,gm,hln]
 refine⟨rfl,MWk.app (ys:=cX [⟨[],[]⟩]) hgw hew (hew.sz (eG _)) xf hew.one (by simp[AV.one]) (.inl rfl) ⟨rfl,fun i e' e he' he=>?_⟩ AX bU cw cu (by rw[AX];rfl) rfl xj yq h.has (fun g1 S1 hg1 hk1 hH1=>?_)⟩
 ·cases i with
  | zero=>simp[cX] at he' he;subst he';subst he;exact⟨⟨.nilA _ _ _,.nilA _ _ _,trivial⟩,rfl⟩
  | succ i=>simp at he'
 obtain⟨g2,nb1⟩:=hk1 _ _ gm (fun e=>h.nb e)
 obtain⟨es1,hgw1,hew1⟩:=id hg1
 have g11:=hgw1.one.1
 have g12:=hgw1.one.2
 try simp only[go_sem,seval,g2,g11,g12]
 have h2:MK σ bm g1 ⟨m.gs++[⟨[],[]⟩],m.n⟩ (S1.set bm (.cells [g1,vi m.n])):={ gm:=Zd g2,gw:=⟨es1,hgw1.cell fun b c hb hcc=>by rw[Za (fun e=>nb1 yd)];exact hcc,by simpa[cX] using hew1⟩,has:=hH1.set h.fm _,fm:=h.fm,nb:=nb1,n0:=h.n0,n1:=h.n1,gl:=by simp;omega }
 have k2:Kp (mO bm gv) (mO bm g1) S (S1.set bm (.cells [g1,vi m.n])):=fun k x a b=>by
  obtain⟨p,q⟩:=hk1 k x a (fun e=>b (.inr e))
  have hne:k≠bm:=fun e=>b (.inl e)
  exact⟨by rw[Za hne];exact p,fun e=>e.elim hne q⟩
 obtain⟨hT2,hTn2⟩:=hT.kp k2 hTn
 have hQ2:=hQ.kp k2 h.own
 obtain⟨S2,hS2⟩:∃ S2:Store,S2=S1.set bm (.cells [g1,vi m.n]):=⟨_,rfl⟩
 rw[<- hS2] at h2 k2 hT2 hQ2 ⊢
 clear hS2 hk1 hH1 hg1 hgw1 hew1 hgw hew gm g2 hln
 simp only[ZW]
 refine vm ?_
 refine uw ?_
 intro b11 hb11
 have f11S:=k2.nb hb11
 have o11:¬ mO bm g1 b11:=fun e=>by obtain⟨c,hc⟩:=h2.own b11 e;rw[Zj hb11] at hc;cases hc
 have nT11:blk tv≠some b11:=fun e=>by obtain⟨⟨c,hc⟩,_⟩:=hT2.at e;rw[Zj hb11] at hc;cases hc
 have f11:Zm σ b11:=h2.has.fresh hb11
 simp only[ZW]
 refine vD ?_
 refine uw ?_
 refine(hslo _).mono ?_
 rintro r S5 ⟨bs,bf,hfb,rfl,hfs,rfl⟩
 refine uw ?_
 have e11:Store.get ((bs,.cells [.list .none 1 (Zu bd),.val (.map mq)])::(bf,.cells f0.emb)::(b11,.cells [.list .full 0 []])::S2) b11=some (.cells [.list .full 0 []]):=by
  rw[Zc (fun e=>by rw[e] at hfs;exact hfs.2.1 rfl),Zc (fun e=>by rw[e] at hfb;exact hfb.1 rfl),Ze]
 have hJ:RJ σ bm gv g1 ⟨m.gs++[⟨[],[]⟩],m.n⟩ S b11 bs bf bd mq qf f0 tv types [] ((bs,.cells [.list .none 1 (Zu bd),.val (.map mq)])::(bf,.cells f0.emb)::(b11,.cells [.list .full 0 []])::S2) :=
  (((show RJ1 σ bm gv g1 ⟨m.gs++[⟨[],[]⟩],m.n⟩ S b11 mq qf tv types [] ((b11,.cells [.list .full 0 []])::S2) from
    { mkr:=h2.kc (.cons hb11 _) (h2.has.cons _),g11:=⟨_,Ze _ _ _,LV.nil _ _ _,(k2.cons hb11 _).tip0 rfl⟩,wt:=hT2.cell fun b c _ hc=>KC.cons hb11 _ _ _ hc,qm:=hQ2.keep fun r m c hr=>by rw[Zg hb11 xF];exact hr }).cons hfb (.cells f0.emb)).cons hfs _).up (f:=f0) (Ze _ _ _) (by rw[Zc hfs.1.symm,Ze])
 obtain⟨S5,hS5⟩:∃ S5:Store,S5=(bs,.cells [.list .none 1 (Zu bd),.val (.map mq)])::(bf,.cells f0.emb)::(b11,.cells [.list .full 0 []])::S2:=⟨_,rfl⟩
 have nb5:∀ l,Zm S5 l->NB (mO bm gv) S l:=fun l hl=>by obtain⟨v,_,_,hk⟩:=hJ.j.g11;rw[<- hS5] at hk;exact hk.nb hl
 simp only[hfe] at hS5
 rw[hfe,<- hS5] at hJ e11
 rw[<- hS5]
 have hH5:=hJ.j.mkr.has
 clear hS5 hfb hfs hb11 h2 k2 hT2 hQ2 hslo
 simp only[ZW]
 refine .block (.rangeT (e:=vi) (L:=YQ bd qf f0 0) 200 #[.pointer (some ⟨bs,0,none⟩),.pointer (some ⟨bf,0,none⟩)] (NF bs bf bd mq qf f0) [b11]
  (RJ σ bm gv g1 ⟨m.gs++[⟨[],[]⟩],m.n⟩ S b11 bs bf bd mq qf f0 tv types) (fun _ _ _=>False) xy yy (hIt bs bf) hJ ?_ ?_ ?_ ?_ ?_ ?_ ?_ ?_)
 ·rintro q S' k x ⟨j1,j2,j3⟩ hk
  exact⟨j1.cons hk x,by rw[Zg hk (by rw[j2];rfl)];exact j2,by rw[Zg hk (by rw[j3];rfl)];exact j3⟩
 ·rintro q S' l r x ⟨j1,j2,j3⟩ hl hg
  have kl:=Xc.set hg x
  exact⟨j1.raw hg (hH5.fresh hl) (nb5 l hl) x,kl _ _ j2 xZ,kl _ _ j3 xZ⟩
 ·intro c q S' l r x hF;exact hF.elim
 ·rintro q S' ⟨j1,j2,j3⟩;exact⟨⟨j2,j1.qm⟩,j3⟩
 ·rintro q S' ⟨j1,j2,j3⟩ k hk
  obtain⟨v,g,_⟩:=j1.g11
  rw[List.mem_singleton.1 hk,g];rfl
 ·intro tmps hsz htm q a S' hql hJ'
  have t11:=htm 11 _ xj yB
  refine uJ ?_
  try simp only[go_sem,seval,Xm,t11]
  refine⟨.refl _ _,hJ',fun S3 hJ3 hkl=>?_⟩
  obtain⟨v,gv11,hL,hK⟩:=hJ3.j.g11
  have hll:(q.foldl XJ []).length<=100000:=by have h1:=OG q [];have h2:=Qj bd qf f0 0;simp at h1;omega
  have hfo:(q++[a]).foldl XJ []=XJ (q.foldl XJ []) a:=by simp
  have hpush:=fun v' S' hv' hT' hH'=>hJ3.push (a:=a) (v':=v') (S':=S') gv11 hL hK hv' hT' hH' o11 f11 f11S nT11
  have hsame:=fun h=>hJ3.same (a:=a) h
  generalize q.foldl XJ []=L0 at hL hll hpush hsame
  have hcc:=(Lp L0 a xh S3).wk (show Wks [v,vi a] [.list .none 1 (Zu L0),vi a] from⟨hL.wk,.refl _,trivial⟩)
  refine uJ ?_
  try simp only[go_sem,seval,Xm,t11,gv11,hL.one,hL.cells]
  refine hcc.only' ?_
  cases hct:L0.contains a with
  | true =>
    try simp only[go_sem,seval,Xm,t11,gv11,hL.one,hL.cells]
    exact⟨hsame hct,.refl _ _⟩
  | false =>
    try simp only[go_sem,seval,Xm,t11,gv11,hL.one,hL.cells]
    refine⟨rfl,hL.appT rfl xj yA rfl xf hJ3.j.mkr.has (fun v' S' hv' hT' hH'=>?_)⟩
    have g':=hT'.kc hL _ _ gv11
    try simp only[go_sem,seval,Xm,t11,g',hv'.one,hv'.cells]
    have eI:Zu (XJ L0 a)=Zu L0++[[vi a]]:=by unfold XJ;rw[hct];simp[Zu]
    refine⟨hpush v' S' (by rw[eI];exact hv') hT' hH',fun k x hk hn hx=>?_⟩
    rw[Za (fun e=>hn (by rw[e];exact List.mem_singleton.2 rfl))]
    exact hT'.kept hL _ _ hk hx
 ·rintro Dm S6 hfD hgD hJ'
  obtain⟨v,gv11,hL,hK⟩:=hJ'.j.g11
  obtain⟨rt,sv,rfl,hsz,-⟩:=id hL
  have hOe:(YQ bd qf f0 0).foldl XJ []=Yz bd qf f0:=rfl
  rw[hOe] at hL hsz gv11 hK
  have hmem:∀ n,n∈Yz bd qf f0->0<=n/\n<(types.length:Int):=fun n hn=>hsl n (Oi.1 hn)
  have holen:=Hc bd qf f0
  have hrng:∀ n∈YQ (bd.map (Xo (Yz bd qf f0))) (W7 (Yz bd qf f0) qf) f0 0,0<=n/\n<((Yz bd qf f0).length:Int):=fun n hn=>Cv hsc hn
  have hGr:Xp G f0 bd qf types m=match YS (YU G ((Yz bd qf f0).map fun n=>types.getD n.toNat zTy) (W7 (Yz bd qf f0) qf)) (drS f0 (Yz bd qf f0).length ⟨[],[],[],.mk 0 { data:=#[] } [] zTy [],bd.map (Xo (Yz bd qf f0))⟩) ⟨m.gs++[⟨[],[]⟩],m.n⟩ with
   | none=>none
   | some (alts,m2)=>some ((m.gs.length:Int),Yz bd qf f0,⟨m2.gs.set m.gs.length ⟨(Yz bd qf f0).map fun n=>types.getD n.toNat zTy,alts⟩,m2.n⟩):=by unfold Xp;rw[gZ hc'];rfl
  rw[hGr]
  clear hGr hOe
  generalize Yz bd qf f0=outer at *
  simp only[Ww,ZW]
  refine .of (Zn (mu:=[]) (dr:=[(14,7,0),(19,6,0),(30,8,9),(32,6,0),(33,3,0)]) xy _ xy _ _ _ ?_)
  refine uw ?_
  intro b13 hb13
  refine uw ?_
  intro bq hbq
  refine uw ?_
  intro b14 hb14
  have hKg:GK σ bm gv S b11 b13 b14 bq Dm mq qf tv types (.list rt sv (Zu outer)) g1 ⟨m.gs++[⟨[],[]⟩],m.n⟩ [.list .full 0 [],.list .full 0 []] [.list .full 0 [],.val (.map (some bq))] (.map [] 0) (fun _=>False) ((b14,.cells [.list .full 0 [],.val (.map (some bq))])::(bq,.map [] 0)::(b13,.cells [.list .full 0 [],.list .full 0 []])::S6):=by
   have g:∀ k y,S6.get k=some y->Store.get ((b14,.cells [.list .full 0 [],.val (.map (some bq))])::(bq,.map [] 0)::(b13,.cells [.list .full 0 [],.list .full 0 []])::S6) k=some y:=fun k y hk=>by
    have a1:Store.get ((b13,.cells [.list .full 0 [],.list .full 0 []])::S6) k=some y:=by rw[Zg hb13 xC];exact hk
    have a2:Store.get ((bq,.map [] 0)::(b13,.cells [.list .full 0 [],.list .full 0 []])::S6) k=some y:=by rw[Zg hbq (by rw[a1];rfl)];exact a1
    rw[Zg hb14 (by rw[a2];rfl)];exact a2
   have fq6:Zm S6 bq:=hbq.2
   have f146:Zm S6 b14:=hb14.2.2
   have hH6:=hJ'.j.mkr.has
   have own6:∀ b,Zm S6 b->¬ mO bm g1 b:=fun b hb e=>by obtain⟨c,hc⟩:=hJ'.j.mkr.own b e;rw[Zj hb] at hc;cases hc
   have tv6:∀ b,Zm S6 b->blk tv≠some b:=fun b hb e=>by obtain⟨⟨c,hc⟩,_⟩:=hJ'.j.wt.at e;rw[Zj hb] at hc;cases hc
   exact { mkr:=hJ'.j.mkr.kc (fun k c hk=>g _ _ hk) (((hH6.cons _).cons _).cons _),g11:=g _ _ gv11,g13:=by rw[Zc hb14.2.1.symm,Zc hbq.1.symm,Ze],g14:=Ze _ _ _,gq:=by rw[Zc hb14.1.symm,Ze],gD:=g _ _ hgD,wt:=hJ'.j.wt.cell fun b c _ hc=>g _ _ hc,qm:=hJ'.j.qm.keep fun r m c hr=>g _ _ hr,
           kp:=(((hK.cons hb13 _).cons hbq _).cons hb14 _).imp (fun _ _ e=>e) (fun _ e=>e.elim .inl False.elim),o11:=o11,o13:=own6 _ hb13,o14:=own6 _ f146,nt:=hTn2,t13:=tv6 _ hb13,t14:=tv6 _ f146,f13:=hH6.fresh hb13,f14:=hH6.fresh f146,fq:=hH6.fresh fq6,n13:=hK.nb hb13,n14:=hK.nb f146,nq:=hK.nb fq6,d1113:=Zv gv11 hb13,d1114:=Zv gv11 f146,d1314:=hb14.2.1,
           mq' := fun e => by rcases hJ'.j.qm with⟨e2,_⟩|⟨r,l,e2,e3,_⟩
                              ·rw[e] at e2;cases e2
                              ·rw[e] at e2;injection e2 with e2;rw[<- e2,Zj fq6] at e3;cases e3
           ism:=⟨_,_,rfl⟩ }
  obtain⟨S7,hS7⟩:∃ S7:Store,S7=(b14,.cells [.list .full 0 [],.val (.map (some bq))])::(bq,.map [] 0)::(b13,.cells [.list .full 0 [],.list .full 0 []])::S6:=⟨_,rfl⟩
  rw[<- hS7] at hKg ⊢
  have nbD:NB (mO bm gv) S Dm:=nb5 Dm hfD
  have fD:=hH5.fresh hfD
  have wo:=hL.wk
  clear hS7 hb13 hbq hb14 hJ' hK hgD hfD nb5 hH5 hL hIt e11 hJ nb1 f11S nT11 f11 hTn2 o11 gv11 hsl
  have g7:=hKg.g11
  try simp only[go_sem,seval,g7,ZZ]
  refine Zp (mu:=[]) (dr:=[(14,7,0),(19,6,0),(30,8,9),(32,6,0),(33,3,0)]) [16,63,64,65,66,67,68,69,70,71,72,73,74,75,76] (fun x:Nat×AV×Store=>[(63,vi x.1)]) (fun x=>x.2.2)
   (fun x=>x.1<=outer.length/\GK σ bm gv S b11 b13 b14 bq Dm mq qf tv types (.list rt sv (Zu outer)) g1 ⟨m.gs++[⟨[],[]⟩],m.n⟩ [x.2.1,.list .full 0 []] [.list .full 0 [],.val (.map (some bq))] (.map [] 0) (Tp x.2.1) x.2.2/\LV σ x.2.2 x.2.1 2 (cI ((outer.take x.1).map fun n=>types.getD n.toNat zTy))) (fun x=>outer.length-x.1)
   (0,.list .full 0 [],S7) xy ⟨by omega,hKg.tip (fun k e=>by simp[Tp,Ym] at e),LV.nil _ _ _⟩ ⟨.refl _,trivial⟩ (.refl _) ?_
  clear hKg g7
  rintro⟨i,va,S8⟩ ⟨hi,hKg,hLa⟩
  dsimp only at hi hKg hLa
  refine uB fun x0=>?_
  by_cases c:i<outer.length
  ·have x1:((i:Int)<(outer.length:Int))=True:=iS xh
   obtain⟨n,hn⟩:∃ t,outer[i]?=some t:=⟨outer[i],iO c⟩
   obtain⟨hn0,hn1⟩:=hmem n (iG hn)
   have gt:(Zu outer)[i]?=some [vi n]:=by simp[Zu,hn]
   have hs1:sv=1:=hsz.resolve_right (fun e=>by have:=je List.length e;rw[ZZ] at this;simp only[im] at this;omega)
   refine uE fun hw=>?_
   obtain⟨k,rfl⟩:∃ k:Nat,n=k:=⟨n.toNat,by omega⟩
   obtain⟨ty,hty⟩:∃ t,types[k]?=some t:=⟨types[k]' xh,iO xh⟩
   have hgd:types.getD (k:Int).toNat zTy=ty:=by rw[iF,jQ,hty];rfl
   have htk:cI ((outer.take (i+1)).map fun n=>types.getD n.toNat zTy)=cI ((outer.take i).map fun n=>types.getD n.toNat zTy)++[ty.emb]:=by
    rw[jh,hn,jj,jv,iR,kI,hgd];simp[di]
   obtain⟨b,cs,hb1,hb2,hb3,hb4,hb5⟩:=hKg.wt.idx (ek _) fa7 fa8 (n:=k) (c:=ty.emb) (by rw[di,jp,hty];rfl)
   have hb4':=iS hb4
   obtain⟨tn,tl⟩:=ty
   simp only[cQ] at hb3 htk
   have g13:=hKg.g13
   subst hs1
   try simp only[go_sem,seval,ZZ,x0,x1,gt,g13,hLa.one,hLa.cells,hb5,hb2,hb3,hb4',iT,iF,jq,jr,jt]
   refine⟨rfl,hLa.appT rfl xj (by rw[cG,io,ip];simp only[ij,im];omega) rfl xf hKg.mkr.has (fun v' S' hv' hT' hS'=>?_)⟩
   have qK:=hKg.app (T':=Tp v') hLa hT' hS' (fun _ e=>e) (fun _ e=>.inr e)
   have q13:=qK.g13
   try simp only[go_sem,seval,q13,hw,hv'.one,hv'.cells]
   exact .mk (i+1,v',S'.set b13 (.cells [v',.list .full 0 []])) ⟨by omega,qK.put13 _,by dsimp only;rw[htk];exact hv'.set q13 xf _⟩ xX ⟨.refl _,trivial⟩ yS (.refl _)
  have x1:((i:Int)<(outer.length:Int))=False:=iU xh
  rw[show outer.take i=outer from iW xh] at hLa
  have wa:=hLa.wk
  have wa1:=hLa.one
  have wa2:=hLa.cells
  obtain⟨env,henv⟩:∃ env,env=outer.map fun n=>types.getD n.toNat zTy:=⟨_,rfl⟩
  have hel:env.length=outer.length:=by rw[henv,io]
  rw[<- henv] at wa hLa ⊢
  obtain⟨rta,sva,hva,-⟩:=id hLa
  have hKg:=hKg.tip (T':=Tp (.list .full 0 [])) (fun k e=>by simp[Tp,Ym] at e)
  have hidx:∀ x,Pur nC 137 [.list rt sv (Zu outer),vi x] (vi (Xo outer x)):=fun x σ'=>(M7 outer x xh σ').wk (show Wks [.list rt sv (Zu outer),vi x] [.list .none 1 (Zu outer),vi x] from⟨wo,.refl _,trivial⟩)
  try simp only[go_sem,seval,ZZ,x0,x1,iV]
  clear hLa c x0 x1 hi
  refine Zp (mu:=[]) (dr:=[(14,7,0),(19,6,0),(30,8,9),(32,6,0),(33,3,0)]) [18,80,81,82,83,84,85,86,87,88,89,90,91,92] (fun x:Nat×AV×Store=>[(80,vi x.1)]) (fun x=>x.2.2)
   (fun x=>x.1<=bd.length/\GK σ bm gv S b11 b13 b14 bq Dm mq qf tv types (.list rt sv (Zu outer)) g1 ⟨m.gs++[⟨[],[]⟩],m.n⟩ [va,.list .full 0 []] [x.2.1,.val (.map (some bq))] (.map [] 0) (Tp x.2.1) x.2.2/\LV σ x.2.2 x.2.1 1 (Zu ((bd.take x.1).map (Xo outer)))) (fun x=>bd.length-x.1)
   (0,.list .full 0 [],S8) xy ⟨by omega,hKg,LV.nil _ _ _⟩ ⟨.refl _,trivial⟩ (.refl _) ?_
  clear hKg
  rintro⟨i,vb',S8⟩ ⟨hi,hKg,hLb⟩
  dsimp only at hi hKg hLb
  refine uB fun x0=>?_
  by_cases c:i<bd.length
  ·have x1:((i:Int)<(bd.length:Int))=True:=iS xh
   obtain⟨n,hn⟩:∃ t,bd[i]?=some t:=⟨bd[i],iO c⟩
   have gt:(Zu bd)[i]?=some [vi n]:=by simp[Zu,hn]
   refine uE fun hw=>?_
   have htk:Zu ((bd.take (i+1)).map (Xo outer))=Zu ((bd.take i).map (Xo outer))++[[vi (Xo outer n)]]:=by simp[Zu,jh,hn]
   have g14:=hKg.g14
   have g11':=hKg.g11
   try simp only[go_sem,seval,ZZ,x0,x1,gt,g14,g11',hLb.one,hLb.cells,iT,iF,jq,jr,jt]
   refine(hidx n).head ?_
   try simp only[go_sem,seval,ZZ,x0,x1,gt,g14,g11',hLb.one,hLb.cells,iT,iF,jq,jr,jt]
   refine⟨rfl,hLb.appT rfl xj (by rw[ZZ,io,ip];simp only[ij,im];omega) rfl xf hKg.mkr.has (fun v' S' hv' hT' hS'=>?_)⟩
   have qK:=hKg.app (T':=Tp v') hLb hT' hS' (fun _ e=>e) (fun _ e=>.inr e)
   have q14:=qK.g14
   try simp only[go_sem,seval,q14,hw,hv'.one,hv'.cells]
   exact .mk (i+1,v',S'.set b14 (.cells [v',.val (.map (some bq))])) ⟨by omega,qK.put14 _,by dsimp only;rw[htk];exact hv'.set q14 xf _⟩ xX ⟨.refl _,trivial⟩ yS (.refl _)
  have x1:((i:Int)<(bd.length:Int))=False:=iU xh
  rw[show bd.take i=bd from iW xh] at hLb
  have wb:=hLb.wk
  have wb1:=hLb.one
  have wb2:=hLb.cells
  have hKg:=hKg.tip (T':=Tp (.list .full 0 [])) (fun k e=>by simp[Tp,Ym] at e)
  try simp only[go_sem,seval,ZZ,x0,x1,iV]
  clear hLb c x0 x1 hi
  obtain⟨qm0,hq1,hq2,hq3⟩:=hKg.qm.mapQ
  refine DE PQ hq1 (fun bi hbi=>?_)
  have nbi:NB (mO bm gv) S bi:=hKg.kp.nb hbi
  have fbi:=hKg.mkr.has.fresh hbi
  have hKg:=hKg.cons hbi (itO mq qm0 [])
  have hq1':mapQ mq qm0 ((bi,itO mq qm0 [])::S8):=hq1.keep fun r l c _ hr=>by rw[Zg hbi xF];exact hr
  have nbq:bi≠bq:=fun e=>by have:=hKg.gq;rw[<- e,Ze] at this;obtain⟨a,x,z,y,e2⟩:=QN mq qm0 [];rw[e2] at this;cases this
  clear hq1
  refine uw ?_
  refine Zp (mu:=[]) (dr:=[(14,7,0),(19,6,0),(30,8,9),(32,6,0),(33,3,0)]) [19,20,21,96,97,98,99,100,101,102,103,104,105,106,107,108,109] (fun _:List Nat×List (Int×AV)×Store=>[]) (fun x=>x.2.2)
   (fun x=>GK σ bm gv S b11 b13 b14 bq Dm mq qf tv types (.list rt sv (Zu outer)) g1 ⟨m.gs++[⟨[],[]⟩],m.n⟩ [va,.list .full 0 []] [vb',.val (.map (some bq))] (.map (ZS keI (Xn x.2.1)) x.2.1.length) (Tp (.list .full 0 [])) x.2.2/\mapQ mq qm0 x.2.2/\x.2.2.get bi=some (itO mq qm0 x.1)/\(x.2.1.map (·.1)).Nodup /\
    (∀ k,Z3 x.2.1 k=none\/Z3 x.2.1 k=(W7 outer qf k).map vi)/\(∀ i∈x.1,∀ p,qm0[i]?=some p->Z3 x.2.1 p.1=(W7 outer qf p.1).map vi)) (fun x=>((List.range qm0.length).filter (fun j=>decide (j ∉ x.1))).length)
   ([],[],(bi,itO mq qm0 [])::S8) xy ⟨hKg,hq1',Ze _ _ _,by simp,fun k=>.inl rfl,fun i hi=>by simp at hi⟩ trivial (.refl _) ?_
  clear hKg hq1' hbi
  rintro⟨seen,mo,S8⟩ ⟨hKg,hq1,hbi,hmn,hma,hmb⟩
  dsimp only at hKg hq1 hbi hmn hma hmb
  refine uw ?_
  refine BF hq1 hbi (fun hall=>?_) (fun i p hp hne=>?_)
  rotate_left
  ·have hq1s:mapQ mq qm0 (S8.set bi (itO mq qm0 (seen++[i]))):=hq1.keep fun r l c _ hr=>by rw[Za (fun e=>by obtain⟨a,x,z,y,e2⟩:=QN mq qm0 seen;rw[e,hbi,e2] at hr;cases hr)];exact hr
   have hbis:(S8.set bi (itO mq qm0 (seen++[i]))).get bi=some (itO mq qm0 (seen++[i])):=Zd hbi
   obtain⟨ia,ix,iz,iy,ie⟩:=QN mq qm0 seen
   have hKs:=hKg.iter (hbi.trans (je some ie)) fbi nbi (itO mq qm0 (seen++[i]))
   have hmem':=iG hp
   have hlk:=Ho hq2 hmem'
   rw[hq3] at hlk
   obtain⟨n,hqn,hpn⟩:=Option.map_eq_some_iff.1 hlk
   have hown:W7 outer qf p.1=if Xo outer n<0 then none else some (Xo outer n):=by unfold W7;rw[hqn];rfl
   have hlt:=Im (List.getElem?_eq_some_iff.1 hp).1 hne
   obtain⟨pk,pv⟩:=p
   dsimp only at hqn hpn hown hlk hmb
   subst hpn
   obtain⟨S9,hS9⟩:∃ S9:Store,S9=S8.set bi (itO mq qm0 (seen++[i])):=⟨_,rfl⟩
   rw[<- hS9] at hq1s hbis hKs ⊢
   clear hS9 hq1 hbi hKg
   refine uw ?_
   refine DS hq1s hbis hp ?_
   have g11':=hKs.g11
   have g14:=hKs.g14
   try simp only[go_sem,seval,g11']
   refine(hidx n).use ?_
   by_cases hge:Xo outer n>=0
   ·have y1:=iS hge
    rw[ig xh] at hown
    try simp only[go_sem,seval,y1,g14,iT]
    refine Yv (l:=Xn mo) (c:=mo.length) PQ fa1 hKs.gq ?_
    rw[(VK mo pk (vi (Xo outer n))).1,(VK mo pk (vi (Xo outer n))).2]
    refine uw ?_
    have hlp:=U8 mo pk
    refine .mk (seen++[i],putA mo pk (vi (Xo outer n)),_) ⟨hKs.putq _ _,hq1s.keep fun r l c hr hg=>by rw[Za (fun e=>hKs.mq' (by rw[<- e];exact hr))];exact hg,by dsimp only;rw[Za nbq];exact hbis,Ko hmn _ _,fun k=>?_,fun j hj p hp'=>?_⟩ hlt trivial yS (.refl _)
    ·dsimp only
     rw[hlp]
     by_cases e:k=pk
     ·rw[gZ e,e,hown];exact .inr rfl
     ·rw[ig e];exact hma k
    ·dsimp only
     rw[hlp]
     by_cases e:p.1=pk
     ·rw[gZ e,e,hown];rfl
     ·rw[ig e]
      rcases List.mem_append.1 hj with hj|hj
      ·exact hmb j hj p hp'
      ·rw[List.mem_singleton.1 hj,hp] at hp'
       injection hp' with hp'
       exact absurd (by rw[<- hp']) e
   ·have y1:=iU hge
    rw[gZ xh] at hown
    try simp only[go_sem,seval,y1,g14,iV]
    refine .mk (seen++[i],mo,S9) ⟨hKs,hq1s,hbis,hmn,hma,fun j hj p hp'=>?_⟩ hlt trivial yS (.refl _)
    rcases List.mem_append.1 hj with hj|hj
    ·exact hmb j hj p hp'
    ·rw[List.mem_singleton.1 hj,hp] at hp'
     injection hp' with hp'
     rw[<- hp']
     rcases hma pk with e|e
     ·dsimp only;rw[e,hown];rfl
     ·exact e
  have hmo:∀ k,Z3 mo k=(W7 outer qf k).map vi:=fun k=>by
   rcases hma k with e|e
   ·cases hqk:qf k with
    | none=>rw[e];unfold W7;rw[hqk];rfl
    | some n =>
      have h1:=hq3 k
      rw[hqk] at h1
      obtain⟨i,p,hp,rfl⟩:=KD h1
      exact hmb i (hall i (List.getElem?_eq_some_iff.1 hp).1) p hp
   ·exact e
  subst hva
  have hQo:QM S8 (some bq) (W7 outer qf):=.inr ⟨bq,mo,rfl,hKg.gq,hmn,hmo⟩
  clear hq1 hq2 hq3 hma hmb hall hbi nbi fbi hidx
  have g13:=hKg.g13
  have g14:=hKg.g14
  try simp only[go_sem,seval,g13,g14,wa1,wa2,wb1,wb2,cG]
  rw[<- hel]
  obtain⟨d0,hd0⟩:∃ d0:Dr,d0=⟨[],[],[],.mk 0 { data:=#[] } [] zTy [],bd.map (Xo outer)⟩:=⟨_,rfl⟩
  have hd0l:d0.len=bd.length:=by rw[hd0];simp[Dr.len]
  have hDok:=A5 V D 4000 50000 env.length (W7 outer qf) f0 d0 (by rw[hd0];simpa using hsc) hshp hdp hnd (by rw[hd0l];exact hbd) (by rw[hd0];intro n hn;have:=hrng n hn;dsimp only;simp only[List.length_nil];omega) (by rw[hd0];simp)
  have hdl:=NH f0 hshp env.length d0
  have hcall:=hdr (some bq) env.length d0 S8 hshp (by rw[hd0l];omega) xh
  rw[<- hd0]
  obtain⟨ds,hds⟩:∃ ds,ds=drS f0 env.length d0:=⟨_,rfl⟩
  rw[<- hds] at hDok hdl hcall ⊢
  refine Zh.mono ((hcall.wk3 (.refl _) (.refl _) ?_).nd) ?_
  ·rw[hd0]
   simp only[Dr.emb,Dr.cs,cM,zTy,kE,kF]
   exact Wkl.agg ⟨.nilA _ _ _,.nilA _ _ _,.nilA _ _ _,.refl _,.refl _,.nilA _ _ _,.refl _,.nilA _ _ _,.nilA _ _ _,wb,.refl _,trivial⟩
  rintro r S9 ⟨⟨⟨vd,rfl,hvd⟩,hH9⟩,hnd9⟩
  have hKg:=hKg.sees (hH9.sees hnd9) (hKg.mkr.has.trans hH9)
  have hQo:=hQo.keep fun r m c hr=>hH9.sees hnd9 _ _ hr
  obtain⟨rtd,sd,rfl,hzd,-⟩:=hvd
  clear hcall hds hdr hmo hH9 hnd9 g13 g14
  try simp only[go_sem,seval,eo]
  obtain⟨m0,hm0⟩:∃ m0:MSt,m0=⟨m.gs++[⟨[],[]⟩],m.n⟩:=⟨_,rfl⟩
  have hm0l:m.gs.length<m0.gs.length:=by rw[hm0];simp
  rw[<- hm0] at hKg ⊢
  have hX0:=WP (YU G env (W7 outer qf)) ds m0
  refine Zp (mu:=[]) (dr:=[(14,7,0),(19,6,0),(30,8,9),(32,6,0),(33,3,0)]) [23,118,119,120,121,122,123,124,125,126,127,128,129,130,131,132] (fun x:Nat×AV×AV×MSt×List Zr×Store=>[(118,vi x.1)]) (fun x=>x.2.2.2.2.2)
   (fun x=>x.1<=ds.length/\GK σ bm gv S b11 b13 b14 bq Dm mq qf tv types (.list rt sv (Zu outer)) x.2.2.1 x.2.2.2.1 [.list rta sva (cI env),x.2.1] [vb',.val (.map (some bq))] (.map (ZS keI (Xn mo)) mo.length) (Tp x.2.1) x.2.2.2.2.2 /\
    QM x.2.2.2.2.2 (some bq) (W7 outer qf)/\LV σ x.2.2.2.2.2 x.2.1 7 (dc x.2.2.2.2.1)/\YS (YU G env (W7 outer qf)) ds m0=Wi (YU G env (W7 outer qf)) x.2.2.2.2.1 (ds.drop x.1) x.2.2.2.1/\x.2.2.2.2.1.length=x.1) (fun x=>ds.length-x.1)
   (0,.list .full 0 [],g1,m0,[],S9) xy ⟨by omega,hKg.tip (fun k e=>by simp[Tp,Ym] at e),hQo,LV.nil _ _ _,hX0,rfl⟩ ⟨.refl _,trivial⟩ (.refl _) ?_
  clear hKg hQo hX0
  rintro⟨i,vc,gv',m',done,S9⟩ ⟨hi,hKg,hQo,hLc,hX,hdn⟩
  dsimp only at hi hKg hQo hLc hX hdn
  refine uB fun x0=>?_
  by_cases c:i<ds.length
  ·have x1:((i:Int)<(ds.length:Int))=True:=iS xh
   obtain⟨d,hd⟩:∃ t,ds[i]?=some t:=⟨ds[i],iO c⟩
   have gt:(eM (some bq) ds)[i]?=some (d.emb (some bq)):=by rw[eM,jp,hd];rfl
   have hs1:sd=11:=hzd.resolve_right (fun e=>by have:=je List.length e;rw[eo] at this;simp only[im] at this;omega)
   refine uE fun hw=>?_
   subst hs1
   rw[drop_at hd] at hX
   have hcl:=fun S hmk hQ=>(KB G σ bm D hG hGm env (W7 outer qf) (some bq) V d gv' m' S hmk hQ xf (hDok d (iG hd)) xh).wk3 (a:=.val (.pointer (some ⟨bm,0,none⟩))) (b:=.list rta sva (cI env)) (c:=.agg (d.emb (some bq))) (.refl _) wa (.refl _)
   obtain⟨o,ho⟩:∃ o,o=YU G env (W7 outer qf) d m':=⟨_,rfl⟩
   rw[<- ho] at hcl
   obtain⟨dp,dv,da,⟨dk,dn,dt,⟨dts,dtl⟩,dl⟩,db⟩:=d
   simp only[Dr.emb,Dr.cs,cM,kE,kF] at gt hcl
   try simp only[go_sem,seval,eo,x0,x1,gt,iT,iF,jq,jr,jt]
   intro b23 hb23
   obtain⟨X23,hX23⟩:∃ X:List AV,X=[.list .none 1 (Zu dp),.list .none 2 (cI dv),.list .none 9 (dD (some bq) da),vi dk,vs dn,.list .none 4 (cJ dt),vs dts,.list .none 2 (cI dtl),.list .none 6 (cN dl),.list .none 1 (Zu db),.val (.map (some bq))]:=⟨_,rfl⟩
   obtain⟨U,hU⟩:∃ U:Store,U=(b23,.cells X23)::S9:=⟨_,rfl⟩
   have u23:U.get b23=some (.cells X23):=by rw[hU];exact Ze _ _ _
   have uK:=hKg.cons hb23 (.cells X23)
   have uL:=hLc.cons hb23 (.cells X23)
   have uQ:=hQo.keep (S':=(b23,.cells X23)::S9) fun r m c hr=>by rw[Zg hb23 xF];exact hr
   have o23:¬ mO bm gv' b23:=fun e=>by obtain⟨c,hc⟩:=hKg.mkr.own b23 e;rw[Zj hb23] at hc;cases hc
   rw[<- hX23,<- hU]
   rw[<- hU] at uK uL uQ
   rw[hX23] at u23
   clear hU hb23 hKg hLc hQo hX23
   have u13:=uK.g13
   try simp only[go_sem,seval,u13,u23,uL.one,uL.cells,wa1,wa2]
   refine(hcl U uK.mkr uQ).mono ?_
   rintro r U2 hR
   cases o with
   | none =>
     obtain⟨rfl,hH2,hP2⟩:=hR
     have gD:=hP2 _ _ uK.gD (fun e=>by obtain⟨c,hc⟩:=uK.mkr.own _ e;rw[uK.gD] at hc;cases hc)
     refine uw ?_
     intro fr'
     refine uw ?_
     rw[Vq ho.symm] at hX
     rw[hX,Sn]
     exact⟨Dm,rfl,gD,_,.refl _,rfl,hH2.set fD _,fun k x a b=>by rw[Za (nbD k x a b)];exact uK.kp.pn hP2 k x a b⟩
   | some xs =>
     obtain⟨x,m2⟩:=xs
     obtain⟨rfl,gv2,hm2,hk2⟩:=hR
     rw[WB ho.symm] at hX
     have wK:=uK.call hm2 hk2
     have wL:=uL.kp hk2 uK.mkr.own
     have wQ:=uQ.kp hk2 uK.mkr.own
     have w23:=(hk2 _ _ u23 o23).1
     have w13:=wK.g13
     have hfe:dc (done++[x])=dc done++[x.emb]:=by simp[dc]
     obtain⟨xv,xo,xp,xn,xa,xg,xl⟩:=x
     simp only[Zr.emb] at hfe ⊢
     clear uK uL uQ u23 u13 hk2 hm2 o23
     try simp only[go_sem,seval,w13,w23,wL.one,wL.cells,wa1,wa2]
     refine⟨rfl,wL.appT rfl xj (by rw[dh];simp only[ij,im];omega) rfl xf wK.mkr.has (fun v1 S1 hv1 hT1 hS1=>?_)⟩
     have yK:=wK.app (T':=Tp v1) wL hT1 hS1 (fun _ e=>e) (fun _ e=>.inr e)
     have yQ:=wQ.keep fun r m c hr=>hT1.kept wL _ _ hr xf
     have y13:=yK.g13
     rw[<- hfe] at hv1
     clear wK wL wQ w23 w13 hfe
     try simp only[go_sem,seval,y13,hw,hv1.one,hv1.cells,wa1,wa2]
     exact .mk (i+1,v1,gv2,m2,done++[⟨xv,xo,xp,xn,xa,xg,xl⟩],S1.set b13 (.cells [.list rta sva (cI env),v1]))
      ⟨by omega,yK.put13 _,yQ.keep fun r m c hr=>by rw[Za (fun e=>by rw[e,y13] at hr;cases hr)];exact hr,hv1.set y13 xf _,hX,by simp[hdn]⟩ xX ⟨.refl _,trivial⟩ yS (.refl _)
  have x1:((i:Int)<(ds.length:Int))=False:=iU xh
  rw[show ds.drop i=[] from lX xh,V8] at hX
  have wc:=hLc.wk
  have wc1:=hLc.one
  have wc2:=hLc.cells
  have hmon:=Re (fun(m:MSt)=>m.gs.length) (fun a s b s' e=>Sv hGm e) _ _ _ _ hX
  rw[hX]
  have gm:=hKg.mkr.gm
  obtain⟨es2,hgw2,hew2⟩:=hKg.mkr.gw
  have hl2:es2.length=m'.gs.length:=by rw[hew2.1,cL]
  obtain⟨b,cs,hb1,hb2,hb3,hb5,hb6⟩:=hgw2.upd (hew2.sz (eG _)) AX bU (n:=m.gs.length) xh
  have g1':=hgw2.one.1
  have g2':=hgw2.one.2
  have g13:=hKg.g13
  have g11':=hKg.g11
  have n11b:(b11=b)=False:=iU (fun e=>hKg.o11 (.inr (by rw[e];exact hb1)))
  have hle:(m.gs.length * 2+2<=cs.length)=True:=iS hb3
  try simp only[go_sem,seval,eo,x0,x1,iV,gm,g1',g2',g13,hb5,hb2,wa1,wa2,wc1,wc2,hle,lf,g11',n11b]
  have hbO:mO bm gv' b:=.inr hb1
  have nbm:b≠bm:=fun e=>hKg.mkr.nb (by rw[<- e];exact hb1)
  have fb:=(hgw2.at hb1).2
  have hM:MK σ bm gv' ⟨m'.gs.set m.gs.length ⟨env,done⟩,m'.n⟩ (S9.set b (.cells (cs.take (m.gs.length * 2)++([.list rta sva (cI env),vc]++cs.drop (m.gs.length * 2+2))))) :=
   { hKg.mkr with gm:=by rw[Za nbm.symm];exact gm,gw:=⟨_,hb6 [.list rta sva (cI env),vc] rfl,by
    have e:cX (m'.gs.set m.gs.length ⟨env,done⟩)=(cX m'.gs).set m.gs.length (FGroup.emb ⟨env,done⟩):=by simp only[cX,List.map_set]
    rw[e]
    exact hew2.set _ (show Wkl [.list rta sva (cI env),vc] [.list .none 2 (cI env),.list .none 7 (dc done)] from⟨wa,wc,trivial⟩) (by simp only[kY,kZ,wc1,wa1,lf])⟩,has:=hKg.mkr.has.set fb _,gl:=by simp only[List.length_set];exact hKg.mkr.gl }
  have hKk:Kp (mO bm gv) (mO bm gv') S (S9.set b (.cells (cs.take (m.gs.length * 2)++([.list rta sva (cI env),vc]++cs.drop (m.gs.length * 2+2))))):=fun k x a c=>by
   obtain⟨p,q⟩:=hKg.kp k x a c
   exact⟨by rw[Za (fun e=>q (.inl (by rw[e];exact hbO)))];exact p,fun e=>q (.inl e)⟩
  have gD':(S9.set b (.cells (cs.take (m.gs.length * 2)++([.list rta sva (cI env),vc]++cs.drop (m.gs.length * 2+2))))).get Dm=some (.raw (.deferred (some []))):=by
   rw[Za (fun e=>by have:=hKg.gD;rw[e,hb2] at this;cases this)];exact hKg.gD
  simp only[kE,kF] at hM hKk gD'
  refine .inl ⟨Dm,rfl,gD',?_⟩
  have hM2:=hM.kc (S':=(S9.set b (.cells (cs.take (m.gs.length * 2)++.list rta sva (cI env)::vc::cs.drop (m.gs.length * 2+2)))).set Dm (.raw (.deferred none))) (fun k c hk=>by rw[Za (fun e=>by rw[e,gD'] at hk;cases hk)];exact hk) (hM.has.set fD _)
  have hK2:=hKk.setN nbD (.raw (.deferred none))
  refine uw ?_
  exact .mk (.tup2 (.refl _) wo) (.refl _) ⟨rfl,gv',hM2,hK2⟩
 ·intro Dm S' c q s hfD hgD hL hF;exact hF.elim
end Go.Vx
