/- A part of the proof of clausalSpinesProved. -/
import Derived.Test.YtllgjklcpieanaaGreatDoorR45
import Derived.Test.YtllgjklcpieanaaGreatDoorR35
import Derived.Test.YtllgjklcpieanaaGreatDoorR20
set_option linter.unusedVariables false
set_option linter.unusedSimpArgs false
set_option maxRecDepth 100000
section
namespace Go.Vx
open Go.Proofs Go.RowKit
def RuR(σ:Store)(bm:Nat)(gv:AV)(S:Store)(o:nM (List Int×MSt)):ZE->Store->Prop:=fun r S'=>match o with
 | some (rs,m')=>r=.ret (.list .none 1 (Zu rs))/\∃ gv',MK σ bm gv' m' S'/\Kp (mO bm gv) (mO bm gv') S S'
 | none=>r=.pan (Y5 2)/\Has σ S'/\Pn (mO bm gv) S S'
theorem M6(l:List Int)(n:Int):Zu (l++[n])=Zu l++[[vi n]]:=by simp[Zu]
theorem Ci(p:Pg)(hp:PP p=0)(σ:Store)(bm:Nat)(gv:AV)(m:MSt)(S:Store)(h:MK σ bm gv m S) :
 Zh nC 40 [.val (.pointer (some ⟨bm,0,none⟩)),.agg p.emb] S (RuR σ bm gv S (YS (WL p) p.rules m)):=by
 obtain⟨hok,hlen⟩:=Fl hp
 have hkind:=fun f=>Bd p f
 have hX0:=WP (WL p) p.rules m
 generalize hY:YS (WL p) p.rules m=Y at hX0 ⊢
 have hR:∀ r,WL p r=fun m=>WL p r m:=fun r=>rfl
 simp only[Pg.emb] at hkind ⊢
 generalize hrs:p.rules=rs at *
 refine Zb [] [] Tryz.func40 rfl xy ?_;rw[Tryz.ntmps40,Tryz.results40]
 refine uw ?_
 refine Zp (mu:=[]) (dr:=[]) [5,7,8,9,13,14,15,16,17,18,19,20,21,22,23,24,25,26,27,28,29,30,31,32,33,34,35,36,37] (fun x:Nat×AV×AV×MSt×List Int×Store=>[(13,vi x.1),(5,x.2.1)]) (fun x=>x.2.2.2.2.2)
  (fun x=>x.1<=rs.length/\LV σ x.2.2.2.2.2 x.2.1 1 (Zu x.2.2.2.2.1)/\MK σ bm x.2.2.1 x.2.2.2.1 x.2.2.2.2.2/\Kp (mO bm gv) (Or (mO bm x.2.2.1) (Tp x.2.1)) S x.2.2.2.2.2/\Y=Wi (WL p) x.2.2.2.2.1 (rs.drop x.1) x.2.2.2.1/\x.2.2.2.2.1.length=x.1) (fun x=>rs.length-x.1)
  (0,.list .full 0 [],gv,m,[],S) xy ⟨by omega,LV.nil _ _ _,h,(Kp.refl _ _).tip0 rfl,hX0,rfl⟩ ⟨.refl _,.refl _,trivial⟩ (.refl _) ?_
 rintro⟨i,v,g1,m1,done,T⟩ ⟨hi,hL,hM,hK,hX,hdl⟩
 dsimp only at hi hL hM hK hX hdl
 refine uB fun x0=>?_
 by_cases c:i<rs.length
 ·have x1:((i:Int)<(rs.length:Int))=True:=iS xh
  obtain⟨r,hr⟩:∃ t,rs[i]?=some t:=⟨rs[i],iO c⟩
  obtain⟨hfl,hdp⟩:=hok r (iG hr)
  have gt:(dx rs)[i]?=some r.emb:=by rw[dx,jp,hr];rfl
  refine uE fun hw=>?_
  rw[drop_at hr] at hX
  have hkr:=hkind r.form
  obtain⟨o,ho⟩:∃ o,o=WL p r m1:=⟨_,rfl⟩
  have hgr:=fun S hM hQ=>Iw (Z2 101) σ bm 101 (Lf σ bm 101) (TU 101) r.form [] none (fun _=>none) 0 (.list .full 0 []) [] g1 m1 S hM hQ (fun _=>rfl) hfl.sc hfl.shp (K5 _ _ hdp) hfl.nds (by have:=hfl.nds;simp only[im];omega) (fun n hn=>by rw[Mq _ _ _ hfl.sc] at hn;cases hn) (.inl ⟨rfl,0,rfl⟩) (fun b e=>by simp[blk] at e)
  have ho1:=ho
  unfold WL at ho
  generalize NE p r.form=kk at hkr ho
  generalize Xp (Z2 101) r.form [] (fun _=>none) [] m1=og at hgr ho
  obtain⟨rn,⟨fk,fs,fa,⟨fts,ftl⟩,fl⟩,ru⟩:=r
  simp only[dZ,cM] at gt hkr hgr
  try simp only[go_sem,seval,du,x0,x1,gt,iT,iF,jq,jr,jt]
  intro b7 hb7
  obtain⟨U,hU⟩:∃ U:Store,U=(b7,AObj.cells [vs rn,vi fk,vs fs,.list .none 4 (cJ fa),vs fts,.list .none 2 (cI ftl),.list .none 6 (cN fl),vi ru])::T:=⟨_,rfl⟩
  have u7:U.get b7=some (.cells [vs rn,vi fk,vs fs,.list .none 4 (cJ fa),vs fts,.list .none 2 (cI ftl),.list .none 6 (cN fl),vi ru]):=by rw[hU];exact Ze _ _ _
  have uM:=hM.kc (KC.cons hb7 (.cells [vs rn,vi fk,vs fs,.list .none 4 (cJ fa),vs fts,.list .none 2 (cI ftl),.list .none 6 (cN fl),vi ru])) (hM.has.cons _)
  have uL:=hL.cons hb7 (.cells [vs rn,vi fk,vs fs,.list .none 4 (cJ fa),vs fts,.list .none 2 (cI ftl),.list .none 6 (cN fl),vi ru])
  have uK:=hK.cons hb7 (.cells [vs rn,vi fk,vs fs,.list .none 4 (cJ fa),vs fts,.list .none 2 (cI ftl),.list .none 6 (cN fl),vi ru])
  rw[<- hU] at uM uL uK ⊢
  clear hU hb7 hL hM hK
  try simp only[go_sem,seval,u7]
  refine hkr.use ?_
  by_cases q4:kk=4
  ·rw[gZ q4] at ho
   subst q4
   rw[ho] at ho1
   rw[WB ho1.symm] at hX
   try simp only[go_sem,seval,iT,uL.one,uL.cells]
   refine⟨rfl,uL.appT rfl xj yA rfl xf uM.has (fun v1 S1 hv1 hT1 hS1=>?_)⟩
   have yM:=uM.kc (hT1.kc uL) hS1
   have yK:=uK.tn hT1
   rw[<- M6] at hv1
   try simp only[go_sem,seval,hw,hv1.one,hv1.cells]
   exact .mk (i+1,v1,g1,m1,done++[-1],S1) ⟨by omega,hv1,yM,yK,hX,by simp[hdl]⟩ xX ⟨.refl _,.refl _,trivial⟩ yS (.refl _)
  ·rw[ig q4] at ho
   have z4:=iU q4
   try simp only[go_sem,seval,z4,iV,u7]
   refine((hgr U uM (.inl ⟨rfl,fun _=>rfl⟩)).wk (args:=[_,_,_,_]) ⟨.refl _,.refl _,Wkl.agg (r:=[.list .full 0 [],.val (.map none)]) ⟨.nilN _ _,.refl _,trivial⟩,.refl _,trivial⟩).mono ?_
   rintro w U2 hR2
   cases og with
   | none =>
     obtain⟨rfl,hH2,hP2⟩:=hR2
     rw[ho] at ho1
     rw[Vq ho1.symm] at hX
     rw[hX]
     refine uw ?_
     exact .mk (.refl _) ⟨rfl,hH2,uK.pn hP2⟩
   | some os =>
     obtain⟨n,outer,m2⟩:=os
     obtain⟨rfl,g2,hm2,hk2⟩:=hR2
     rw[ho] at ho1
     rw[WB ho1.symm] at hX
     have wL:=uL.kp hk2 uM.own
     have wK:=uK.call hk2
     try simp only[go_sem,seval,wL.one,wL.cells]
     refine⟨rfl,wL.appT rfl xj yA rfl xf hm2.has (fun v1 S1 hv1 hT1 hS1=>?_)⟩
     have yM:=hm2.kc (hT1.kc wL) hS1
     have yK:=wK.tn hT1
     rw[<- M6] at hv1
     try simp only[go_sem,seval,hw,hv1.one,hv1.cells]
     exact .mk (i+1,v1,g2,m2,done++[n],S1) ⟨by omega,hv1,yM,yK,hX,by simp[hdl]⟩ xX ⟨.refl _,.refl _,trivial⟩ yS (.refl _)
 have x1:((i:Int)<(rs.length:Int))=False:=iU xh
 rw[show rs.drop i=[] from lX xh,V8] at hX
 rw[hX]
 have wr:=hL.wk
 have wr1:=hL.one
 have wr2:=hL.cells
 try simp only[go_sem,seval,du,x0,x1,iV]
 exact .mk wr (.refl _) ⟨rfl,g1,hM,hK.drop⟩
open Go.Proofs Go.RowKit
theorem RP(f:nG)(σ:Store)(R:ZE->Store->Prop)
 (h:∀ b,Zm σ b->ZH nC (.val f) [] ((b,.cells [.val (.int .i64 0)])::σ) (fun r σ'=>σ'.get b=some (.cells [.val (.int .i64 0)])/\match r with|.ret _=>R (.ret (.val (.int .i64 0))) σ'|.pan pv=>∃ e,pv=Y5 e/\R (.ret (.val (.int .i64 e))) (σ'.set b (.cells [.val (.int .i64 e)])))) :
 Zh nC 38 [.val f] σ R:=by
 refine XF Tryz.func38 rfl xy ?_
 rw[Tryz.ntmps38,Tryz.results38]
 refine vu ?_
 refine uw ?_
 intro b hb
 simp only[ZW]
 refine vQ ?_
 refine uw ?_
 refine wy ?_
 simp only[ZW]
 refine uC ?_
 refine uw ?_
 refine(h b hb).mono ?_
 rintro r σ' ⟨hg,hr⟩
 cases r with
 | ret v =>
   try simp only[go_sem,seval,hg]
   rw[show σ'.set b (.cells [AV.val (.int .i64 0)])=σ' from V0 hg]
   simp only[WY]
   refine wy ?_
   refine UT b 0 _ hg _ ?_
   try simp only[go_sem,seval,hg]
   exact .mk (.refl _) (.refl _) hr
 | pan pv =>
   obtain⟨e,rfl,hr⟩:=hr
   refine uw ?_
   simp only[U9]
   refine⟨_,_,_,rfl,rfl,?_⟩
   refine US b 0 e _ hg _ ?_
   have hg2:=Zd (y:=.cells [.val (.int .i64 e)]) hg
   try simp only[go_sem,seval,hg2]
   exact .mk (.refl _) (.refl _) hr
def F1R(σ:Store)(bm b6:Nat)(S:Store)(o:nM (List Int×MSt)):ZE->Store->Prop:=fun r S'=>(∀ k x,S.get k=some x->k≠bm->k≠b6->S'.get k=some x)/\Has σ S'/\match o with
 | some (rs,m')=>r=.ret (.tup [])/\∃ gv',MK σ bm gv' m' S'/\S'.get b6=some (.cells [gv',.list .none 1 (Zu rs)])/\∀ k x,S.get k=some x->k≠bm->blk gv'≠some k
 | none=>r=.pan (Y5 2)
theorem Ba(p:Pg)(hp:PP p=0)(σ:Store)(bm b5 b1 b6:Nat)(S:Store)(h:MK σ bm (.list .full 0 []) ⟨[],0⟩ S)(g5:S.get b5=some (.cells [.val (.pointer (some ⟨bm,0,none⟩))]))(g1:S.get b1=some (.cells p.emb))
 (g6:S.get b6=some (.cells [.list .full 0 [],.list .full 0 []])) (n56:b5≠b6) (n5m:b5≠bm) (n1m:b1≠bm) (n6m:b6≠bm) (f6:Zm σ b6) :
 Zh nC 39 [.val (.pointer (some ⟨b5,0,none⟩)),.val (.pointer (some ⟨b1,0,none⟩)),.val (.pointer (some ⟨b6,0,none⟩))] S (F1R σ bm b6 S (YS (WL p) p.rules ⟨[],0⟩)):=by
 have hru:=Ci p hp σ bm (.list .full 0 []) ⟨[],0⟩ S h
 generalize YS (WL p) p.rules ⟨[],0⟩=o at hru ⊢
 have no:∀ k,k≠bm->¬ mO bm (.list .full 0 []) k:=fun k hk e=>e.elim hk (fun e=>by simp[blk] at e)
 simp only[Pg.emb] at g1 hru
 refine Zb [] [] Tryz.func39 rfl xy ?_;rw[Tryz.ntmps39,Tryz.results39]
 try simp only[go_sem,seval,g5,g1]
 refine hru.mono ?_
 rintro r S2 hR
 cases o with
 | none =>
   obtain⟨rfl,hH,hP⟩:=hR
   refine uw ?_
   exact .mk (.refl _) ⟨fun k x hk h1 h2=>hP k x hk (no k h1),hH,rfl⟩
 | some os =>
   obtain⟨rs,m'⟩:=os
   obtain⟨rfl,gv',hM,hK⟩:=hR
   obtain⟨k6,o6⟩:=hK _ _ g6 (no _ n6m)
   obtain⟨k5,-⟩:=hK _ _ g5 (no _ n5m)
   have n56':=iU n56
   have n65:=iU n56.symm
   have n6m':=iU n6m
   have nm6:=iU n6m.symm
   have gm:=hM.gm
   obtain⟨es',hgw,-⟩:=id hM.gw
   have w1:=hgw.one.1
   have w2:=hgw.one.2
   try simp only[go_sem,seval,k6,k5,n56',n65,n6m',nm6,gm,w1,w2]
   have hH3:=hM.has.set f6 (.cells [gv',.list .none 1 (Zu rs)])
   exact .mk (.refl _) (.refl _) ⟨fun k x hk h1 h2=>by rw[Za h2];exact(hK k x hk (no k h1)).1,hH3,rfl,gv',hM.at (fun b c hb hc=>by rw[Za (fun e:_=b6=>o6 yd)];exact hc) hH3,Zd k6,fun k x hk h1 e=>(hK k x hk (no k h1)).2 (.inr e)⟩
theorem Xq.tr{a b c:AV}{σ σ1 σ2:Store}(h:Xq a σ b σ1)(k:Xq b σ1 c σ2):Xq a σ c σ2:=fun w x ho hv=>by
 obtain⟨h1,h2,h3⟩:=h w x ho hv
 obtain⟨k1,k2,k3⟩:=k w x h2 h1
 exact⟨k1,k2,h3.trans k3⟩
theorem fU{cs cs':List AV}{σ σ':Store}(h0:∀ w,Zq σ w->Zq σ' w/\Ev σ w σ' w)(hl:cs.length=cs'.length)(h:∀ (i:Nat) (c c':AV),cs[i]?=some c->cs'[i]?=some c'->Xq c σ c' σ'):Xq (.tup cs) σ (.tup cs') σ':=by
 intro w v ho hv
 obtain⟨o1,e1⟩:=h0 w ho
 refine⟨?_,o1,e1⟩
 cases hv with
 | tup _ vs hl2 h2 =>
   refine .tup cs' vs xh (fun i c' v hc' hv=>?_)
   exact rM
theorem AQ(p:Pg):Pur nC 13 [.agg p.emb] (.tup [.agg (Iz p).1.emb,vi (Iz p).2]):=by
 intro σ
 refine Zh.nodup xy (fun hnd=>?_)
 have hch:=QY p
 have hf1:=fun hp=>Ba p hp
 unfold Iz
 simp only[Pg.emb] at hch hf1 ⊢
 generalize YS (WL p) p.rules ⟨[],0⟩=o at hf1 ⊢
 refine Zb [1,15] [] Tryz.func13 rfl xy ?_;rw[Tryz.ntmps13,Tryz.results13]
 refine uw ?_
 intro b1 hb1
 refine uw ?_
 intro b2 hb2
 have n21:=iU (iC hb2.1)
 try simp only[go_sem,seval,n21]
 refine hch.use ?_
 by_cases c:PP p=0
 rotate_left
 ·rw[ig c]
  have z:=iU c
  try simp only[go_sem,seval,z,iV]
  exact .mk (Wk.tup2 (Wkl.agg (s:=Flat.emb ⟨[],[]⟩) ⟨.nilN _ _,.nilN _ _,trivial⟩) (.refl _)) (((Sub.refl σ).skip _).skip _) ⟨rfl,rfl⟩
 have hf1:=hf1 c
 rw[gZ c,c]
 refine uw ?_
 intro bm hbm b5 hb5 b6 hb6
 refine RP _ _ _ (fun b hb=>?_)
 rw[Z4]
 obtain⟨S,hS⟩:∃ S:Store,S=(b,AObj.cells [AV.val (Value.int IntKind.i64 0)])::(b6,AObj.cells [AV.list Rt.full 0 [],AV.list Rt.full 0 []])::(b5,AObj.cells [AV.val (Value.pointer (some { block:=bm,off:=0 }))])::(bm,AObj.cells [AV.list Rt.full 0 [],AV.val (Value.int IntKind.i64 0)])::(b2,AObj.cells [AV.list Rt.full 0 [],AV.list Rt.full 0 []])::(b1,AObj.cells [AV.list Rt.none 1 (ZX p.types),AV.list Rt.none 3 (cZ p.consts),AV.list Rt.none 4 (df p.preds),AV.list Rt.none 8 (dx p.rules),AV.list Rt.none 8 (dy p.queries)])::σ:=⟨_,rfl⟩
 have hHS:Has σ S:=by rw[hS];exact((((((Has.refl σ).cons _).cons _).cons _).cons _).cons _).cons _
 have nb6:=hb.1.symm
 have nb5:=hb.2.1.symm
 have nbm:=hb.2.2.1.symm
 have nb2:=hb.2.2.2.1.symm
 have nb1:=hb.2.2.2.2.1.symm
 have n65:=hb6.1.symm
 have n6m:=hb6.2.1.symm
 have n62:=hb6.2.2.1.symm
 have n61:=hb6.2.2.2.1.symm
 have f6:Zm σ b6:=hb6.2.2.2.2
 have n5m:=hb5.1.symm
 have n52:=hb5.2.1.symm
 have n51:=hb5.2.2.1.symm
 have nm2:=hbm.1.symm
 have nm1:=hbm.2.1.symm
 have fm:Zm σ bm:=hbm.2.2
 have gb:S.get b=some (.cells [vi 0]):=by rw[hS];exact Ze _ _ _
 have g6:S.get b6=some (.cells [.list .full 0 [],.list .full 0 []]):=by rw[hS,Zc nb6];exact Ze _ _ _
 have g5:S.get b5=some (.cells [.val (.pointer (some ⟨bm,0,none⟩))]):=by rw[hS,Zc nb5,Zc n65];exact Ze _ _ _
 have gm:S.get bm=some (.cells [.list .full 0 [],vi 0]):=by rw[hS,Zc nbm,Zc n6m,Zc n5m];exact Ze _ _ _
 have g2:S.get b2=some (.cells [.list .full 0 [],.list .full 0 []]):=by rw[hS,Zc nb2,Zc n62,Zc n52,Zc nm2];exact Ze _ _ _
 have g1:S.get b1=some (.cells [AV.list Rt.none 1 (ZX p.types),AV.list Rt.none 3 (cZ p.consts),AV.list Rt.none 4 (df p.preds),AV.list Rt.none 8 (dx p.rules),AV.list Rt.none 8 (dy p.queries)]):=by rw[hS,Zc nb1,Zc n61,Zc n51,Zc nm1,Zc (iC hb2.1)];exact Ze _ _ _
 rw[<- hS]
 clear hS
 have f2:Zm σ b2:=hb2.2
 have fb:Zm σ b:=hb.2.2.2.2.2
 refine(hf1 σ bm b5 b1 b6 S { gm:=gm,gw:=⟨[],.inl ⟨rfl,0,rfl⟩,rfl,fun i a b ha hb=>by simp at ha⟩,has:=hHS,fm:=fm,nb:=by simp[blk],n0:=by decide,n1:=by decide,gl:=by simp } g5 g1 g6 n65.symm n5m nm1.symm n6m f6).mono ?_
 rintro r S' ⟨hk,hH,hr⟩
 have kb:=hk b _ gb nbm nb6
 have k2:=hk b2 _ g2 nm2.symm n62.symm
 have nb2':=iU nb2
 refine⟨kb,?_⟩
 cases o with
 | none =>
   subst hr
   refine⟨2,rfl,?_⟩
   have k2':(S'.set b (.cells [.val (.int .i64 2)])).get b2=some (.cells [.list .full 0 [],.list .full 0 []]):=by rw[Za nb2.symm];exact k2
   try simp only[go_sem,seval,k2',k2,nb2']
   exact .mk (Wk.tup2 (Wkl.agg (s:=Flat.emb ⟨[],[]⟩) ⟨.nilN _ _,.nilN _ _,trivial⟩) (.refl _)) (((hH.set fb _).set f2 _).sub hnd) ⟨rfl,rfl⟩
 | some os =>
   obtain⟨rs,m'⟩:=os
   obtain⟨rfl,gv',hM,k6,hn6⟩:=hr
   obtain⟨es',hgw,hE⟩:=id hM.gw
   have w1:=hgw.one.1
   have w2:=hgw.one.2
   try simp only[go_sem,seval,k2,k6,w1,w2]
   have hgl:=hM.gl
   have hH2:=hH.set f2 (.cells [gv',.list .none 1 (Zu rs)])
   have hgw2:MW σ 2 (S'.set b2 (.cells [gv',.list .none 1 (Zu rs)])) gv' es':=hgw.cell fun k c hk hc=>by
    rw[Za (fun e:k=b2=>hn6 _ _ g2 nm2.symm (by rw[<- e];exact hk))];exact hc
   generalize S'.set b2 (.cells [gv',.list .none 1 (Zu rs)])=S2 at hH2 hgw2 ⊢
   obtain⟨S7,sh,-,hH7,h07⟩:=hgw2.frz (hE.sz (eG _)) hE.one (by rw[hE.1,cL];omega) hH2
   have hwe:Wk (.list .none 2 es') (.list .none 2 (cX m'.gs)):=.elems hE.1 (fun i e e' h1 h2=>(hE.2 i e e' h1 h2).1)
   have hs1:Shl S2 S7 [gv',.list .none 1 (Zu rs)] [.list .none 2 es',.list .none 1 (Zu rs)]:=⟨sh,.wk (.refl _) h07,trivial⟩
   have hs2:Shl S2 S7 [.agg [gv',.list .none 1 (Zu rs)],.val (.int .i64 0)] [.agg [.list .none 2 es',.list .none 1 (Zu rs)],.val (.int .i64 0)]:=⟨.aggl h07 hs1.at.1 hs1.at.2,.wk (.refl _) h07,trivial⟩
   exact .mkS ((fU h07 hs2.at.1 hs2.at.2).tr (.of (Wk.tup2 (Wkl.agg (s:=Flat.emb ⟨m'.gs,rs⟩) ⟨hwe,.refl _,trivial⟩) (.refl _)) (hH7.sub hnd))) ⟨rfl,rfl⟩
open Go.Proofs Go.RowKit
theorem LB(bb:Nat)(G R:AV)(k:Int)(lg:Bool)(S:Store)(hG:G.one=true)(hR:R.one=true)(h0:0<=k)(hk:k+1<=4000)(g:S.get bb=some (.cells [G,R,vi k,vb lg])) :
 Zh nC 192 [.val (.pointer (some ⟨bb,0,none⟩))] S (fun r S'=>r=.ret (.tup [])/\S'=S.set bb (.cells [G,R,vi (k+1),vb lg])):=by
 have w:IntKind.i64.wrap (k+1)=k+1:=Zk xh xh
 have g2:(S.set bb (.cells [G,R,vi (k+1),vb lg])).get bb=some (.cells [G,R,vi (k+1),vb lg]):=Zd g
 refine Zb [] [] Tryz.func192 rfl xy ?_;rw[Tryz.ntmps192,Tryz.results192]
 try simp only[go_sem,seval,g,w,g2,hG,hR]
 refine VR (fun h=>?_) (fun h=>?_)
 ·refine uw ?_
  exact qT
 ·simp at h;omega
theorem Bq(bb ms:Nat)(G R:AV)(k q n lv lev:Int)(s nm:Str)(mm:List (Int×AV))(mc:Nat)(lg:Bool)(S:Store)(hG:G.one=true)(hR:R.one=true)(h0:0<=k)(hk:k+1<=4000)(hn:n<=100000)(g:S.get bb=some (.cells [G,R,vi k,vb lg]))
 (gm:S.get ms=some (.map (ZS keI (Xn mm)) mc)) (hl:Z3 mm q=some (.agg [vb false,vi lv,vi 4,vi n,vs nm,.list .none 4 []])) :
 Zh nC 261 [.val (.pointer (some ⟨bb,0,none⟩)),.agg [vi 4,vi q,vs s,.list .none 4 []],.val (.map (some ms)),vi lev] S (fun r S'=>r=.ret (.agg [vi 4,vi n,vs nm,.list .none 4 []])/\S'=S.set bb (.cells [G,R,vi (k+1),vb lg])):=by
 refine Zb [] [(16,8,0)] Tryz.func261 rfl xy ?_;rw[Tryz.ntmps261,Tryz.results261]
 refine uw ?_
 intro b8 hb8
 have nb8:=Zv g hb8
 have f8:Zm S b8:=hb8
 have g':Store.get ((b8,AObj.cells [vi 0,vi 0,.val (.string { data:=#[] }),.list .full 0 []])::S) bb=some (.cells [G,R,vi k,vb lg]):=by rw[Zg hb8 xA];exact g
 refine uw ?_
 refine(LB bb G R k lg _ hG hR h0 hk g').mono ?_
 rintro r T ⟨rfl,rfl⟩
 have nbm:ms≠bb:=fun e=>by rw[e,g] at gm;cases gm
 rw[Zo nb8.symm]
 obtain⟨S1,hS1⟩:∃ S1:Store,S1=S.set bb (.cells [G,R,vi (k+1),vb lg]):=⟨_,rfl⟩
 have g1:S1.get bb=some (.cells [G,R,vi (k+1),vb lg]):=by rw[hS1];exact Zd g
 have gm1:S1.get ms=some (.map (ZS keI (Xn mm)) mc):=by rw[hS1,Za nbm];exact gm
 have n8m:=Zv gm hb8
 rw[<- hS1]
 have z5:((4:Int)=5)=False:=by simp
 have zn:(n > 100000)=False:=iU xh
 refine uw ?_
 intro b9 hb9
 have n89:b8≠b9:=hb9.1
 have n9b:=Zv g1 hb9.2
 have n9m:=Zv gm1 hb9.2
 refine Ws fa4 fa1 fa5 (by rw[Zc n9m.symm,Zc n8m.symm];exact gm1) ?_
 rw[WW,hl]
 rw[show ∀ z,lkV z (some (AV.agg [vb false,vi lv,vi 4,vi n,vs nm,.list .none 4 []])) false=AV.agg [vb false,vi lv,vi 4,vi n,vs nm,.list .none 4 []] from fun _=>rfl]
 refine uw ?_
 intro b10 hb10
 have m109:=iU hb10.1.symm
 have m910:=iU hb10.1
 have m108:=iU hb10.2.1.symm
 have m98:=iU n89.symm
 have m89:=iU n89
 have mb9:=iU n9b
 have m9b:=iU n9b.symm
 have mb8:=iU nb8
 have m8b:=iU nb8.symm
 have n10b:=Zv g1 hb10.2.2
 have mb10:=iU n10b
 have m10b:=iU n10b.symm
 cases lg
 all_goals
  try simp only[go_sem,seval,m109,m910,m108,m98,m89,mb9,m9b,mb8,m8b,mb10,m10b,g1,hG,hR,zn,z5,iV,iT]
  refine Zp (mu:=[]) (dr:=[(16,8,0)]) [12,75,76,77,78,79,80,81,82,83,84,85,86,87,88,89] (fun _:Unit=>[(75,vi 0)]) (fun _=>_) (fun _=>True) (fun _=>0) () xy trivial ⟨.refl _,trivial⟩ (.refl _) ?_
  rintro⟨⟩ -
  have x1:((0:Int)<((([]:List (List AV)).length:Nat):Int))=False:=by simp
  try simp only[go_sem,seval,x1,iV,m109,m910,m108,m98,m89,mb9,m9b,mb8,m8b,mb10,m10b,g1]
  rw[V0 g1]
  exact .mk (Wkl.agg (s:=[vi 4,vi n,vs nm,.list .none 4 []]) ⟨.refl _,.refl _,.refl _,.nilN _ _,trivial⟩) ((((Sub.refl S1).skip _).skip _).skip _) ⟨rfl,rfl⟩
structure BK (σ:Store) (bb:Nat) (X:List AV) (S S':Store):Prop where
 has:Has σ S'
 own:S'.get bb=some (.cells X)
 kp:∀ j x,S.get j=some x->j≠bb->S'.get j=some x
theorem Br(σ:Store)(bb ms:Nat)(G R:AV)(k q n lv lev:Int)(s nm pred:Str)(mm:List (Int×AV))(mc:Nat)(lg:Bool)(S:Store)(hG:G.one=true)(hR:R.one=true)(h0:0<=k)(hk:k+1<=4000)(hn:n<=100000)(g:S.get bb=some (.cells [G,R,vi k,vb lg]))
 (gm:S.get ms=some (.map (ZS keI (Xn mm)) mc)) (hl:Z3 mm q=some (.agg [vb false,vi lv,vi 4,vi n,vs nm,.list .none 4 []])) (hH:Has σ S) (fb:Zm σ bb) :
 Zh nC 193 [.val (.pointer (some ⟨bb,0,none⟩)),vs pred,.list .none 4 [[vi 4,vi q,vs s,.list .none 4 []]],.val (.map (some ms)),vi lev] S
  (fun r S'=>r=.ret (.agg [vi 1,vs pred,.list .none 4 [[vi 4,vi n,vs nm,.list .none 4 []]],.val (.string { data:=#[] }),.list .none 2 [],.list .none 6 []])/\BK σ bb [G,R,vi (k+1),vb lg] S S'):=by
 refine Zb [] [(5,8,9)] Tryz.func193 rfl xy ?_;rw[Tryz.ntmps193,Tryz.results193]
 refine uw ?_
 intro b10 hb10
 refine uw ?_
 intro b11 hb11
 have n1011:=hb11.1
 have f10:Zm S b10:=hb10
 have f11:Zm S b11:=hb11.2
 obtain⟨T0,hT0⟩:∃ T0:Store,T0=(b11,AObj.cells [vi 1,vs pred,.list .full 0 [],.val (.string { data:=#[] }),.list .full 0 [],.list .full 0 []])::(b10,AObj.cells [vi 0,.val (.string { data:=#[] }),.list .full 0 [],.val (.string { data:=#[] }),.list .full 0 [],.list .full 0 []])::S:=⟨_,rfl⟩
 have t11:T0.get b11=some (.cells [vi 1,vs pred,.list .full 0 [],.val (.string { data:=#[] }),.list .full 0 [],.list .full 0 []]):=by rw[hT0];exact Ze _ _ _
 have t10:T0.get b10=some (.cells [vi 0,.val (.string { data:=#[] }),.list .full 0 [],.val (.string { data:=#[] }),.list .full 0 [],.list .full 0 []]):=by rw[hT0,Zc n1011.symm];exact Ze _ _ _
 have tk:∀ j x,S.get j=some x->T0.get j=some x:=fun j x hj=>by rw[hT0,Zc (Zv hj f11).symm,Zc (Zv hj f10).symm];exact hj
 have tH:Has σ T0:=by rw[hT0];exact(hH.cons _).cons _
 rw[<- hT0]
 clear hT0 hb11 hb10
 refine uw ?_
 have fb10:=Zv g f10
 have fb11:=Zv g f11
 refine Zp (mu:=[]) (dr:=[(5,8,9)]) [13,18,19,20,21,22,23,24,25,26,27,28,29,30,31,32] (fun x:Nat×AV×Store=>[(18,vi x.1)]) (fun x=>x.2.2)
  (fun x=>(x.1=0/\x.2.2=T0)\/(x.1=1/\LV σ x.2.2 x.2.1 4 [[vi 4,vi n,vs nm,.list .none 4 []]]/\x.2.2.get b11=some (.cells [vi 1,vs pred,x.2.1,.val (.string { data:=#[] }),.list .full 0 [],.list .full 0 []])/\(x.2.2.get b10).isSome=true/\x.2.2.get b10=T0.get b10/\BK σ bb [G,R,vi (k+1),vb lg] S x.2.2)) (fun x=>1-x.1)
  (0,.list .full 0 [],T0) xy (.inl ⟨rfl,rfl⟩) ⟨.refl _,trivial⟩ (.refl _) ?_
 rintro⟨i,v,T⟩ hI
 dsimp only at hI
 rcases hI with⟨rfl,rfl⟩|⟨rfl,hL,e11,-,e10,hB⟩
 ·refine wI fun hw=>?_
  obtain⟨va,hva⟩:∃ va:AV,va=.list .full 0 []:=⟨_,rfl⟩
  have hLa:∀ W,LV σ W va 4 []:=fun W=>by rw[hva];exact LV.nil _ _ _
  have htip:Ym va=none:=by rw[hva];rfl
  have t11:T.get b11=some (.cells [vi 1,vs pred,va,.val (.string { data:=#[] }),.list .full 0 [],.list .full 0 []]):=by rw[hva];exact t11
  clear hva
  have va1:=(hLa T).one
  have va2:=(hLa T).cells
  try simp only[go_sem,seval,t11,va1,va2,jq,jr,jt]
  intro b13 hb13
  obtain⟨U,hU⟩:∃ U:Store,U=(b13,AObj.cells [vi 4,vi q,vs s,.list .none 4 []])::T:=⟨_,rfl⟩
  have u13:U.get b13=some (.cells [vi 4,vi q,vs s,.list .none 4 []]):=by rw[hU];exact Ze _ _ _
  have uk:∀ j x,T.get j=some x->U.get j=some x:=fun j x hj=>by rw[hU,Zc (Zv hj hb13).symm];exact hj
  have uH:Has σ U:=by rw[hU];exact tH.cons _
  rw[<- hU]
  have n1311:=Zv t11 hb13
  have nb13:=Zv (tk _ _ g) hb13
  clear hU hb13
  have u11:=uk _ _ t11
  try simp only[go_sem,seval,u11,u13,va1,va2]
  refine(Bq bb ms G R k q n lv lev s nm mm mc lg U hG hR h0 hk hn (uk _ _ (tk _ _ g)) (uk _ _ (tk _ _ gm)) hl).mono ?_
  rintro r W ⟨rfl,rfl⟩
  have w11:(U.set bb (.cells [G,R,vi (k+1),vb lg])).get b11=some (.cells [vi 1,vs pred,va,.val (.string { data:=#[] }),.list .full 0 [],.list .full 0 []]):=by rw[Za fb11.symm];exact u11
  have wB:BK σ bb [G,R,vi (k+1),vb lg] S (U.set bb (.cells [G,R,vi (k+1),vb lg])):=⟨uH.set fb _,Zd (uk _ _ (tk _ _ g)),fun j x hj hn=>by rw[Za hn];exact uk _ _ (tk _ _ hj)⟩
  have w10:(U.set bb (.cells [G,R,vi (k+1),vb lg])).get b10=T.get b10:=by rw[Za fb10.symm,uk _ _ t10,t10]
  have w13:(U.set bb (.cells [G,R,vi (k+1),vb lg])).get b13=some (.cells [vi 4,vi q,vs s,.list .none 4 []]):=by rw[Za nb13.symm];exact u13
  generalize U.set bb (.cells [G,R,vi (k+1),vb lg])=W at w11 w13 wB w10 ⊢
  try simp only[go_sem,seval,w11,w13,va1,va2]
  refine⟨rfl,(hLa W).appT (ys:=[[vi 4,vi n,vs nm,.list .none 4 []]]) rfl xj yq rfl xf wB.has (fun v1 S1 hv1 hT1 hS1=>?_)⟩
  have kk:∀ j x,W.get j=some x->S1.get j=some x:=fun j x hj=>(hT1 j x hj xf (by rw[htip];simp)).1
  have y11:=kk _ _ w11
  try simp only[go_sem,seval,y11,hw,hv1.one,hv1.cells]
  exact .mk (1,v1,S1.set b11 (.cells [vi 1,vs pred,v1,.val (.string { data:=#[] }),.list .full 0 [],.list .full 0 []])) (.inr ⟨rfl,hv1.set y11 xf _,Zd y11,by dsimp only;rw[Za n1011,kk _ _ (w10.trans t10)];rfl,by dsimp only;rw[Za n1011,kk _ _ (w10.trans t10),t10],hS1.set (hH.fresh f11) _,by rw[Za fb11];exact kk _ _ wB.own,fun j x hj hn=>by rw[Za (Zv hj f11)];exact kk _ _ (wB.kp j x hj hn)⟩) xX ⟨.refl _,trivial⟩ yS (.refl _)
 ·have wr:=hL.wk
  have wr1:=hL.one
  have wr2:=hL.cells
  try simp only[go_sem,seval,e11,e10,t10,wr1,wr2]
  exact .mk (Wkl.agg (s:=[vi 1,vs pred,.list .none 4 [[vi 4,vi n,vs nm,.list .none 4 []]],.val (.string { data:=#[] }),.list .none 2 [],.list .none 6 []]) ⟨.refl _,.refl _,wr,.refl _,.nilN _ _,.nilN _ _,trivial⟩) (.refl _)
   ⟨rfl,hB.has.set (hH.fresh f10) _,by rw[Za fb10];exact hB.own,fun j x hj hn=>by rw[Za (Zv hj f10)];exact hB.kp j x hj hn⟩
open Go.Proofs Go.RowKit
theorem Jj(σ:Store)(bb ms:Nat)(G R V L Gs Ls:AV)(k q n lv lev env:Int)(s nm pred:Str)(mm:List (Int×AV))(mc:Nat)(lg:Bool)(S:Store)(hG:G.one=true)(hR:R.one=true)(h0:0<=k)(hk:k+2<=4000)(hn:n<=100000)(g:S.get bb=some (.cells [G,R,vi k,vb lg]))
 (gm:S.get ms=some (.map (ZS keI (Xn mm)) mc)) (hl:Z3 mm q=some (.agg [vb false,vi lv,vi 4,vi n,vs nm,.list .none 4 []])) (hH:Has σ S) (fb:Zm σ bb) :
 Zh nC 133 [.val (.pointer (some ⟨bb,0,none⟩)),.list .none 5 [[.ro [V,L,.list .none 1 [],vs pred,.list .none 4 [[vi 4,vi q,vs s,.list .none 4 []]],Gs,Ls],vi env,vi 0,vi 0,vi 0]],.val (.map (some ms)),vi lev] S
  (fun r S'=>r=.ret (.agg [vi 1,vs pred,.list .none 4 [[vi 4,vi n,vs nm,.list .none 4 []]],.val (.string { data:=#[] }),.list .none 2 [],.list .none 6 []])/\BK σ bb [G,R,vi (k+2),vb lg] S S'):=by
 refine Zb [] [(3,8,0),(4,13,0),(11,7,0),(20,17,0),(29,13,1),(30,6,0),(34,8,0)] Tryz.func133 rfl xy ?_;rw[Tryz.ntmps133,Tryz.results133]
 refine uw ?_
 intro b8 hb8
 have f8:Zm S b8:=hb8
 refine vB fun T hT=>?_
 refine vn fun t8=>?_
 refine vZ fun tk=>?_
 have tH:Has σ T:=by rw[hT];exact hH.cons _
 rw[<- hT]
 clear hT hb8
 refine uw ?_
 refine(LB bb G R k lg T hG hR h0 xh (tk _ _ g)).mono ?_
 rintro r W ⟨rfl,rfl⟩
 have fb8:=Zv g f8
 have nbm:ms≠bb:=fun e=>by rw[e,g] at gm;cases gm
 have w8:(T.set bb (.cells [G,R,vi (k+1),vb lg])).get b8=T.get b8:=by rw[Za fb8.symm]
 have wm:(T.set bb (.cells [G,R,vi (k+1),vb lg])).get ms=some (.map (ZS keI (Xn mm)) mc):=by rw[Za nbm];exact tk _ _ gm
 have wB:BK σ bb [G,R,vi (k+1),vb lg] S (T.set bb (.cells [G,R,vi (k+1),vb lg])):=⟨tH.set fb _,Zd (tk _ _ g),fun j x hj hn=>by rw[Za hn];exact tk _ _ hj⟩
 generalize T.set bb (.cells [G,R,vi (k+1),vb lg])=W at w8 wm wB ⊢
 try simp only[go_sem,seval,jq,jr,jt]
 intro b9 hb9
 try simp only[go_sem,seval,jq,jr,jt,iT]
 have uk:∀ (x:AObj) j y,W.get j=some y->Store.get ((b9,x)::W) j=some y:=fun x j y hj=>by rw[Zc (Zv hj hb9).symm];exact hj
 refine(Br σ bb ms G R (k+1) q n lv lev s nm pred mm mc lg _ hG hR xh xh hn (uk _ _ _ wB.own) (uk _ _ _ wm) hl (wB.has.cons _) fb).mono ?_
 rintro r Z ⟨rfl,hZ⟩
 have z8:=hZ.kp b8 _ (uk _ _ _ (w8.trans t8)) fb8.symm
 have zk:∀ j x,S.get j=some x->j≠bb->Z.get j=some x:=fun j x hj hn=>hZ.kp j x (uk _ _ _ (wB.kp j x hj hn)) hn
 try simp only[go_sem,seval,z8]
 rw[show k+1+1=k+2 by omega] at hZ
 exact .mk (.refl _) (.refl _) ⟨rfl,hZ.has.set (hH.fresh f8) _,by rw[Za fb8];exact hZ.own,fun j x hj hn=>by rw[Za (Zv hj f8)];exact zk j x hj hn⟩
open Go.Proofs Go.RowKit
theorem Di(σ:Store)(bb ms gi:Nat)(gs:List FGroup)(envT vars locals:List Ty)(goals:List Zi)(lasts:List Bool)(R:AV)(k q n lv lev:Int)(s nm pred:Str)(mm:List (Int×AV))(mc:Nat)(lg:Bool)(S:Store)(hR:R.one=true)(h0:0<=k)(hk:k+2<=4000)(hn:n<=100000)
 (hgi:gs[gi]?=some ⟨envT,[⟨vars,locals,[],pred,[.mk 4 q s []],goals,lasts⟩]⟩) (g:S.get bb=some (.cells [.list .none 2 (cX gs),R,vi k,vb lg]))
 (gm:S.get ms=some (.map (ZS keI (Xn mm)) mc)) (hl:Z3 mm q=some (.agg [vb false,vi lv,vi 4,vi n,vs nm,.list .none 4 []])) (hH:Has σ S) (fb:Zm σ bb) :
 Zh nC 73 [.val (.pointer (some ⟨bb,0,none⟩)),vi gi,.val (.map (some ms)),vi lev] S
  (fun r S'=>r=.ret (.agg [vi 1,vs pred,.list .none 4 [[vi 4,vi n,vs nm,.list .none 4 []]],.val (.string { data:=#[] }),.list .none 2 [],.list .none 6 []])/\BK σ bb [.list .none 2 (cX gs),R,vi (k+2),vb lg] S S'):=by
 have gt:(cX gs)[gi]?=some [.list .none 2 (cI envT),.list .none 7 (dc [⟨vars,locals,[],pred,[.mk 4 q s []],goals,lasts⟩])]:=by rw[cX,jp,hgi];rfl
 have hlt:gi<gs.length:=(List.getElem?_eq_some_iff.1 hgi).1
 have x0:(0<=(gi:Int))=True:=iS xh
 have x1:((gi:Int)<(gs.length:Int))=True:=iS xh
 refine Zb [] [(5,24,0)] Tryz.func73 rfl xy ?_;rw[Tryz.ntmps73,Tryz.results73]
 refine uw ?_
 intro b8 hb8
 have f8:Zm S b8:=hb8
 refine vB fun T hT=>?_
 refine vn fun t8=>?_
 refine vZ fun tk=>?_
 have tH:Has σ T:=by rw[hT];exact hH.cons _
 rw[<- hT]
 clear hT hb8
 have tb:=tk _ _ g
 have hcl:dc [⟨vars,locals,[],pred,[.mk 4 q s []],goals,lasts⟩]=[[.list .none 2 (cI vars),.list .none 2 (cI locals),.list .none 1 [],vs pred,.list .none 4 [[vi 4,vi q,vs s,.list .none 4 []]],.list .none 9 (cY goals),.list .none 1 (Uv lasts)]]:=rfl
 rw[hcl] at gt
 obtain⟨va,hva⟩:∃ va:AV,va=.list .full 0 []:=⟨_,rfl⟩
 have hLa:∀ W,LV σ W va 5 []:=fun W=>by rw[hva];exact LV.nil _ _ _
 have htip:Ym va=none:=by rw[hva];rfl
 have hlen:((cI envT).length:Int)=(envT.length:Int):=by rw[cG]
 try simp only[go_sem,seval,tb,cL,x0,x1,gt,iT,iF,jq,jr,jt]
 refine Zp (mu:=[]) (dr:=[(5,24,0)]) [9,10,21,22,23,24,25,26,27,28,29,30,31,32,33,34,35,36,37,38,39,40,41,42,43,44,45,46,47,48,49] (fun x:Nat×AV×Store=>[(21,vi x.1),(9,x.2.1)]) (fun x=>x.2.2)
  (fun x=>(x.1=0/\x.2.1=va/\x.2.2=T)\/(x.1=1/\LV σ x.2.2 x.2.1 5 [[.ro [.list .none 2 (cI vars),.list .none 2 (cI locals),.list .none 1 [],vs pred,.list .none 4 [[vi 4,vi q,vs s,.list .none 4 []]],.list .none 9 (cY goals),.list .none 1 (Uv lasts)],vi envT.length,vi 0,vi 0,vi 0]]/\(∀ j y,T.get j=some y->x.2.2.get j=some y)/\Has σ x.2.2)) (fun x=>1-x.1)
  (0,va,T) xy (.inl ⟨rfl,rfl,rfl⟩) ⟨.refl _,by rw[hva];exact .refl _,trivial⟩ (.refl _) ?_
 rintro⟨i,v,U⟩ hI
 dsimp only at hI
 rcases hI with⟨rfl,rfl,rfl⟩|⟨rfl,hL,uk,uH⟩
 ·refine wI fun hw=>?_
  have va1:=(hLa U).one
  have va2:=(hLa U).cells
  try simp only[go_sem,seval,tb,va1,va2,cG,cL,x0,x1,gt,iT,iF,jq,jr,jt]
  refine⟨rfl,(hLa U).appT (ys:=[[.ro [.list .none 2 (cI vars),.list .none 2 (cI locals),.list .none 1 [],vs pred,.list .none 4 [[vi 4,vi q,vs s,.list .none 4 []]],.list .none 9 (cY goals),.list .none 1 (Uv lasts)],vi envT.length,vi 0,vi 0,vi 0]]) rfl xj yq rfl xf tH (fun v1 S1 hv1 hT1 hS1=>?_)⟩
  have kk:∀ j x,U.get j=some x->S1.get j=some x:=fun j x hj=>(hT1 j x hj xf (by rw[htip];simp)).1
  try simp only[go_sem,seval,hw,hv1.one,hv1.cells]
  exact .mk (1,v1,S1) (.inr ⟨rfl,hv1,kk,hS1⟩) xX ⟨.refl _,.refl _,trivial⟩ yS (.refl _)
 ·have wr1:=hL.one
  have wr2:=hL.cells
  try simp only[go_sem,seval,wr1,wr2,hcl]
  have fb8:=Zv g f8
  refine((Jj σ bb ms (.list .none 2 (cX gs)) R (.list .none 2 (cI vars)) (.list .none 2 (cI locals)) (.list .none 9 (cY goals)) (.list .none 1 (Uv lasts)) k q n lv lev envT.length s nm pred mm mc lg U rfl hR h0 hk hn (uk _ _ tb) (uk _ _ (tk _ _ gm)) hl uH fb).wk (args:=[_,v,_,_]) ⟨.refl _,hL.wk,.refl _,.refl _,trivial⟩).mono ?_
  rintro r Z ⟨rfl,hZ⟩
  have z8:=hZ.kp b8 _ (uk _ _ t8) fb8.symm
  try simp only[go_sem,seval,z8]
  exact .mk (.refl _) (.refl _) ⟨rfl,hZ.has.set (hH.fresh f8) _,by rw[Za fb8];exact hZ.own,fun j x hj hn=>by rw[Za (Zv hj f8)];exact hZ.kp j x (uk _ _ (tk _ _ hj)) hn⟩
open Go.Proofs Go.RowKit
theorem E9(σ:Store)(bb b4 b9 ms gi:Nat)(gs:List FGroup)(envT vars locals:List Ty)(goals:List Zi)(lasts:List Bool)(R:AV)(k q n lv:Int)(s nm pred:Str)(mm:List (Int×AV))(mc:Nat)(lg:Bool)(S:Store)(hR:R.one=true)(h0:0<=k)(hk:k+2<=4000)(hn:n<=100000)
 (hgi:gs[gi]?=some ⟨envT,[⟨vars,locals,[],pred,[.mk 4 q s []],goals,lasts⟩]⟩) (g:S.get bb=some (.cells [.list .none 2 (cX gs),R,vi k,vb lg])) (g4:S.get b4=some (.cells [vi gi])) (g9:S.get b9=some (.cells [.val (.map (some ms))]))
 (gm:S.get ms=some (.map (ZS keI (Xn mm)) mc)) (hl:Z3 mm q=some (.agg [vb false,vi lv,vi 4,vi n,vs nm,.list .none 4 []])) (hH:Has σ S) (fb:Zm σ bb) :
 Zh nC 72 [.val (.pointer (some ⟨bb,0,none⟩)),.val (.pointer (some ⟨b4,0,none⟩)),.val (.pointer (some ⟨b9,0,none⟩))] S
  (fun r S'=>r=.ret (.agg [vi 1,vs pred,.list .none 4 [[vi 4,vi n,vs nm,.list .none 4 []]],.val (.string { data:=#[] }),.list .none 2 [],.list .none 6 []])/\BK σ bb [.list .none 2 (cX gs),R,vi (k+2),vb lg] S S'):=by
 refine Zb [] [] Tryz.func72 rfl xy ?_;rw[Tryz.ntmps72,Tryz.results72]
 refine uw ?_
 intro b8 hb8
 have f8:Zm S b8:=hb8
 refine vB fun T hT=>?_
 refine vn fun t8=>?_
 refine vZ fun tk=>?_
 have tH:Has σ T:=by rw[hT];exact hH.cons _
 rw[<- hT]
 clear hT hb8
 have t4:=tk _ _ g4
 have t9:=tk _ _ g9
 try simp only[go_sem,seval,t4,t9]
 have fb8:=Zv g f8
 refine(Di σ bb ms gi gs envT vars locals goals lasts R k q n lv 0 s nm pred mm mc lg T hR h0 hk hn hgi (tk _ _ g) (tk _ _ gm) hl tH fb).mono ?_
 rintro r Z ⟨rfl,hZ⟩
 have z8:=hZ.kp b8 _ t8 fb8.symm
 try simp only[go_sem,seval,z8]
 exact .mk (.refl _) (.refl _) ⟨rfl,hZ.has.set (hH.fresh f8) _,by rw[Za fb8];exact hZ.own,fun j x hj hn=>by rw[Za (Zv hj f8)];exact hZ.kp j x (tk _ _ hj) hn⟩
open Go.Proofs Go.RowKit
theorem Bg(t:Tm):Pur nC 191 [.agg t.emb] (vi (Sk t.shape).2):=by
 intro σ
 have hm:=TE t
 obtain⟨k,n,s,l⟩:=t
 simp only[cO] at hm ⊢
 generalize Sk (Tm.mk k n s l).shape=m at hm ⊢
 refine Zb [] [] Tryz.func191 rfl xy ?_;rw[Tryz.ntmps191,Tryz.results191]
 refine uw ?_
 refine hm.use ?_
 refine uw ?_
 exact Us rfl
theorem Hu(n:Int)(nm pred:Str):Pur nC 132 [.agg [vi 1,vs pred,.list .none 4 [[vi 4,vi n,vs nm,.list .none 4 []]],.val (.string { data:=#[] }),.list .none 2 [],.list .none 6 []]] (vi 2):=by
 intro σ
 have hd:=Bg (.mk 4 n nm [])
 rw[show(Sk (Tm.mk 4 n nm []).shape).2=1 from rfl] at hd
 simp only[cO,show cJ []=[] from rfl] at hd
 refine wI fun hw=>?_
 have hw2:IntKind.i64.wrap ((1:Int)+1)=2:=Zk xh xh
 refine Zb [] [] Tryz.func132 rfl xy ?_;rw[Tryz.ntmps132,Tryz.results132]
 refine uw ?_
 refine Zp (mu:=[]) (dr:=[]) [3,5,11,12,13,14,15,16,17,18,19] (fun x:Nat×Store=>[(11,vi x.1),(3,vi x.1)]) (fun x=>x.2)
  (fun x=>x.1<=1/\Sub σ x.2) (fun x=>1-x.1) (0,σ) xy ⟨by omega,.refl _⟩ ⟨.refl _,.refl _,trivial⟩ (.refl _) ?_
 rintro⟨i,T⟩ ⟨hi,hs⟩
 dsimp only at hi hs
 by_cases c:i=0
 ·subst c
  try simp only[go_sem,seval,jq,jr,jt,iT]
  intro b5 hb5
  refine uw ?_
  refine hd.use ?_
  refine wu ?_
  exact .mk (1,_) ⟨by omega,hs.skip _⟩ xX ⟨.refl _,.refl _,trivial⟩ yS (.refl _)
 ·obtain rfl:i=1:=by omega
  refine uw ?_
  refine Zp (mu:=[]) (dr:=[]) [3,7,23,24,25,26,27,28,29,30,31] (fun x:Unit=>[(23,vi 0),(3,vi 1)]) (fun x=>T)
   (fun x=>True) (fun x=>0) () xy trivial ⟨.refl _,.refl _,trivial⟩ (.refl _) ?_
  rintro⟨⟩ -
  try simp only[go_sem,seval,hw2]
  exact .mk (.refl _) hs ⟨rfl,rfl⟩
open Go.Proofs Go.RowKit
theorem Gp(σ:Store)(f:nG)(b3 b6 b7 bb:Nat)(p a w x5 x6:AV)(z1 z2 z3 z4 z5 z6:AV)(X:List AV)(S:Store)(g3:S.get b3=some (.cells [.val f]))(g6:S.get b6=some (.cells [.val (.pointer (some ⟨bb,0,none⟩))]))(g7:S.get b7=some (.cells [z1,z2,z3,z4,z5,z6]))(n7:b7≠bb)(f7:Zm σ b7)
 (o2:p.one=true) (o3:a.one=true) (o4:w.one=true) (o5:x5.one=true) (o6:x6.one=true) (hf:ZH nC (.val f) [.val (.pointer (some ⟨bb,0,none⟩))] S (fun r S'=>r=.ret (.agg [vi 1,p,a,w,x5,x6])/\BK σ bb X S S')) :
 Zh nC 131 [.val (.pointer (some ⟨b3,0,none⟩)),.val (.pointer (some ⟨b6,0,none⟩)),.val (.pointer (some ⟨b7,0,none⟩))] S
  (fun r S'=>r=.ret (.tup [])/\Has σ S'/\S'.get bb=some (.cells X)/\S'.get b7=some (.cells [vi 1,p,a,w,x5,x6])/\∀ j x,S.get j=some x->j≠bb->j≠b7->S'.get j=some x):=by
 refine Zb [] [] Tryz.func131 rfl xy ?_;rw[Tryz.ntmps131,Tryz.results131]
 try simp only[go_sem,seval,g3,g6]
 refine hf.mono ?_
 rintro r Z ⟨rfl,hZ⟩
 have z7:=hZ.kp _ _ g7 n7
 try simp only[go_sem,seval,z7,o2,o3,o4,o5,o6]
 exact .mk (.refl _) (.refl _) ⟨rfl,hZ.has.set f7 _,by rw[Za n7.symm];exact hZ.own,Zd z7,fun j x hj h1 h2=>by rw[Za h2];exact hZ.kp j x hj h1⟩
open Go.Proofs Go.RowKit
abbrev smA (pred:Str) (n:Int) (nm:Str):List AV:=[vi 1,vs pred,.list .none 4 [[vi 4,vi n,vs nm,.list .none 4 []]],.val (.string { data:=#[] }),.list .none 2 [],.list .none 6 []]
abbrev fmV (b4 b9:Nat):nG:=.func (.func 72) ⟨[]⟩ ⟨[.pointer (some ⟨b4,0,none⟩),.pointer (some ⟨b9,0,none⟩)]⟩
theorem Da(σ:Store)(b4 b9:Nat)(G R:AV)(n:Int)(nm pred:Str)(hG:G.one=true)(hR:R.one=true)
 (hf:∀ S bb,S.get bb=some (.cells [G,R,vi 0,vb false])->(∀ j x,σ.get j=some x->S.get j=some x)->Has σ S->Zm σ bb->ZH nC (.val (fmV b4 b9)) [.val (.pointer (some ⟨bb,0,none⟩))] S (fun r S'=>r=.ret (.agg (smA pred n nm))/\BK σ bb [G,R,vi 2,vb false] S S')) :
 Zh nC 71 [.agg [G,R],.val (fmV b4 b9)] σ (fun r S'=>r=.ret (.tup [.agg (smA pred n nm),vi 0])/\S'=σ):=by
 refine Zh.nodup xy (fun hnd=>?_)
 have hlv:=Hu n nm pred
 refine Zb [3,11] [] Tryz.func71 rfl xy ?_;rw[Tryz.ntmps71,Tryz.results71]
 try simp only[go_sem,seval,hG,hR]
 intro b3 hb3 b4r hb4r bb hbb b6 hb6 b7 hb7
 refine RP _ _ _ (fun b hb=>?_)
 rw[Z4]
 obtain⟨S,hS⟩:∃ S:Store,S=(b,AObj.cells [AV.val (Value.int IntKind.i64 0)])::(b7,AObj.cells [vi 0,.val (.string { data:=#[] }),.list .full 0 [],.val (.string { data:=#[] }),.list .full 0 [],.list .full 0 []])::(b6,AObj.cells [AV.val (Value.pointer (some { block:=bb,off:=0 }))])::(bb,AObj.cells [G,R,AV.val (Value.int IntKind.i64 0),AV.val (Value.bool false)])::(b4r,AObj.cells [vi 0,.val (.string { data:=#[] }),.list .full 0 [],.val (.string { data:=#[] }),.list .full 0 [],.list .full 0 []])::(b3,AObj.cells [.val (fmV b4 b9)])::σ:=⟨_,rfl⟩
 have hHS:Has σ S:=by rw[hS];exact((((((Has.refl σ).cons _).cons _).cons _).cons _).cons _).cons _
 have n1:=hb.1.symm
 have n2:=hb.2.1.symm
 have n3:=hb.2.2.1.symm
 have n4:=hb.2.2.2.1.symm
 have n5:=hb.2.2.2.2.1.symm
 have fb:Zm σ b:=hb.2.2.2.2.2
 have m1:=hb7.1.symm
 have m2:=hb7.2.1.symm
 have m3:=hb7.2.2.1.symm
 have m4:=hb7.2.2.2.1.symm
 have f7:Zm σ b7:=hb7.2.2.2.2
 have k1:=hb6.1.symm
 have k2:=hb6.2.1.symm
 have k3:=hb6.2.2.1.symm
 have l1:=hbb.1.symm
 have l2:=hbb.2.1.symm
 have fbb:Zm σ bb:=hbb.2.2
 have r1:=hb4r.1.symm
 have f4r:Zm σ b4r:=hb4r.2
 have gb:S.get b=some (.cells [vi 0]):=by rw[hS];exact Ze _ _ _
 have g7:S.get b7=some (.cells [vi 0,.val (.string { data:=#[] }),.list .full 0 [],.val (.string { data:=#[] }),.list .full 0 [],.list .full 0 []]):=by rw[hS,Zc n1];exact Ze _ _ _
 have g6:S.get b6=some (.cells [.val (.pointer (some ⟨bb,0,none⟩))]):=by rw[hS,Zc n2,Zc m1];exact Ze _ _ _
 have gbb:S.get bb=some (.cells [G,R,vi 0,vb false]):=by rw[hS,Zc n3,Zc m2,Zc k1];exact Ze _ _ _
 have g4r:S.get b4r=some (.cells [vi 0,.val (.string { data:=#[] }),.list .full 0 [],.val (.string { data:=#[] }),.list .full 0 [],.list .full 0 []]):=by rw[hS,Zc n4,Zc m3,Zc k2,Zc l1];exact Ze _ _ _
 have g3:S.get b3=some (.cells [.val (fmV b4 b9)]):=by rw[hS,Zc n5,Zc m4,Zc k3,Zc l2,Zc r1];exact Ze _ _ _
 have sk:∀ j x,σ.get j=some x->S.get j=some x:=fun j x hj=>by rw[hS,Zc (Zv hj fb).symm,Zc (Zv hj f7).symm,Zc (Zv hj hb6.2.2.2).symm,Zc (Zv hj fbb).symm,Zc (Zv hj f4r).symm,Zc (Zv hj hb3).symm];exact hj
 rw[<- hS]
 clear hS
 refine(Gp σ (fmV b4 b9) b3 b6 b7 bb (vs pred) (.list .none 4 [[vi 4,vi n,vs nm,.list .none 4 []]]) (.val (.string { data:=#[] })) (.list .none 2 []) (.list .none 6 []) _ _ _ _ _ _ [G,R,vi 2,vb false] S g3 g6 g7 m2 f7 rfl rfl rfl rfl rfl (hf S bb gbb sk hHS fbb)).mono ?_
 rintro r Z ⟨rfl,hH,zb,z7,hk⟩
 have kb:=hk b _ gb n3 n1
 have z6:=hk b6 _ g6 k1 m1.symm
 have z4:=hk b4r _ g4r l1.symm m3.symm
 refine⟨kb,?_⟩
 try simp only[go_sem,seval,z6,z7,zb]
 refine hlv.use ?_
 try simp only[go_sem,seval,z6,z7,zb,z4]
 exact .mk (.refl _) ((hH.set f4r _).sub hnd) ⟨rfl,rfl⟩
open Go.Proofs Go.RowKit
theorem K1(fl:Flat)(gi:Nat)(t:Ty)(vars locals:List Ty)(goals:List Zi)(lasts:List Bool)(n:Int)(s nm pred:Str)(hc:NO fl=0)(hn:n<=100000)(hr:Vy (.mk 4 n nm [])=0)
 (hgi:fl.groups[gi]?=some ⟨[t],[⟨vars,locals,[],pred,[.mk 4 0 s []],goals,lasts⟩]⟩):Pur nC 34 [.agg fl.emb,vi gi,.list .none 4 [[vi 4,vi n,vs nm,.list .none 4 []]]] (.tup [.agg (smA pred n nm),vi 0]):=by
 intro σ
 refine Zh.nodup xy (fun hnd=>?_)
 have hch:=SC fl
 rw[hc] at hch
 have hraw:=My (.mk 4 n nm [])
 rw[hr] at hraw
 simp only[Flat.emb,cO,show cJ []=[] from rfl] at hch hraw ⊢
 have gt:(cX fl.groups)[gi]?=some [.list .none 2 (cI [t]),.list .none 7 (dc [⟨vars,locals,[],pred,[.mk 4 0 s []],goals,lasts⟩])]:=by rw[cX,jp,hgi];rfl
 have hlt:gi<fl.groups.length:=(List.getElem?_eq_some_iff.1 hgi).1
 have x0:(0<=(gi:Int))=True:=iS xh
 have x1:((gi:Int)<(fl.groups.length:Int))=True:=iS xh
 have x2:((gi:Int)<0)=False:=iU xh
 have x3:((gi:Int)>=(fl.groups.length:Int))=False:=iU xh
 have x4:((fl.groups.length:Int)<=(gi:Int))=False:=iU xh
 refine Zb [4] [] Tryz.func34 rfl xy ?_;rw[Tryz.ntmps34,Tryz.results34]
 refine uw ?_
 intro b4 hb4
 refine uw ?_
 intro b6 hb6
 refine uw ?_
 refine hch.use ?_
 have n64:=hb6.1.symm
 have f4:Zm σ b4:=hb4
 have f6:Zm σ b6:=hb6.2
 obtain⟨S,hS⟩:∃ S:Store,S=(b6,AObj.cells [vi 0,.val (.string { data:=#[] }),.list .full 0 [],.val (.string { data:=#[] }),.list .full 0 [],.list .full 0 []])::(b4,AObj.cells [vi gi])::σ:=⟨_,rfl⟩
 have g6:S.get b6=some (.cells [vi 0,.val (.string { data:=#[] }),.list .full 0 [],.val (.string { data:=#[] }),.list .full 0 [],.list .full 0 []]):=by rw[hS];exact Ze _ _ _
 have g4:S.get b4=some (.cells [vi gi]):=by rw[hS,Zc n64];exact Ze _ _ _
 have hHS:Has σ S:=by rw[hS];exact((Has.refl σ).cons _).cons _
 rw[<- hS]
 clear hS
 try simp only[go_sem,seval,g4,cL,cG,x0,x1,x2,x3,x4,gt,iT,iV,iF,jq,jr,jt]
 intro ms hms b9 hb9
 have n9m:=hb9.1.symm
 have fm:Zm S ms:=hms
 have f9:Zm S b9:=hb9.2
 have o4:=Zv g4 fm
 have hsm:∀ {j:Nat} {x:AObj},S.get j=some x->j≠ms:=fun h=>Zv h fm
 obtain⟨T,hT⟩:∃ T:Store,T=(b9,AObj.cells [.val (.map (some ms))])::(ms,.map [] 0)::S:=⟨_,rfl⟩
 have t9:T.get b9=some (.cells [.val (.map (some ms))]):=by rw[hT];exact Ze _ _ _
 have tm:T.get ms=some (.map [] 0):=by rw[hT,Zc n9m];exact Ze _ _ _
 have tk:∀ j x,S.get j=some x->T.get j=some x:=fun j x hj=>by rw[hT,Zc (Zv hj f9).symm,Zc (Zv hj fm).symm];exact hj
 have hHT:Has σ T:=by rw[hT];exact(hHS.cons _).cons _
 rw[<- hT]
 clear hT hb9 hms
 refine Zp (mu:=[4]) (dr:=[]) [7,10,11,43,44,45,46,47,48,49,50,51,52,53,54,55,56,57,58,59,60,61,62,63,64,65,66,67] (fun x:Nat×Store=>[(43,vi x.1)]) (fun x=>x.2)
  (fun x=>(x.1=0/\x.2=T)\/(x.1=1/\Has σ x.2/\(∀ j y,T.get j=some y->j≠ms->x.2.get j=some y)/\x.2.get ms=some (.map (ZS keI (Xn [((0:Int),AV.agg [vb false,vi 0,vi 4,vi n,vs nm,.list .none 4 []])])) 1))) (fun x=>1-x.1)
  (0,T) xy (.inl ⟨rfl,rfl⟩) ⟨.refl _,trivial⟩ (.refl _) ?_
 rintro⟨i,U⟩ hI
 dsimp only at hI
 rcases hI with⟨rfl,rfl⟩|⟨rfl,uH,uk,um⟩
 ·refine wI fun hw=>?_
  try simp only[go_sem,seval,jq,jr,jt,iT]
  intro b11 hb11
  refine uw ?_
  refine hraw.use ?_
  have e9:=iU (Zv t9 hb11).symm
  have e9':=iU (Zv t9 hb11)
  have nm11:=Zv tm hb11
  try simp only[go_sem,seval,t9,e9,e9']
  refine Yv (l:=[]) (c:=0) fa4 fa1 (by rw[Zc nm11.symm];exact tm) ?_
  rw[Zo nm11.symm]
  refine wu ?_
  exact .mk (1,(b11,AObj.cells [vi 4,vi n,vs nm,.list .none 4 []])::U.set ms _) (.inr ⟨rfl,(hHT.set (hHS.fresh fm) _).cons _,fun j y hj hn=>by dsimp only;rw[Zc (Zv hj hb11).symm,Za hn];exact hj,by dsimp only;rw[Zc nm11.symm];exact Zd tm⟩) xX ⟨.refl _,trivial⟩ yS (.refl _)
 ·have u9:=uk _ _ t9 n9m
  have u4:=uk _ _ (tk _ _ g4) o4
  have u6:=uk _ _ (tk _ _ g6) (hsm g6)
  try simp only[go_sem,seval,u9,u4]
  refine(Da U b4 b9 (.list .none 2 (cX fl.groups)) (.list .none 1 (Zu fl.rules)) n nm pred rfl rfl (fun S2 bb gb sk2 hH2 fb2=>?_)).mono ?_
  ·rw[Z4]
   exact E9 U bb b4 b9 ms gi fl.groups [t] vars locals goals lasts (.list .none 1 (Zu fl.rules)) 0 0 n 0 s nm pred _ 1 false S2 rfl xj xj hn hgi gb (sk2 _ _ u4) (sk2 _ _ u9) (sk2 _ _ um) rfl hH2 fb2
  ·rintro r Z ⟨rfl,rfl⟩
   try simp only[go_sem,seval,u6]
   exact .mk (.refl _) ((uH.set f6 _).sub hnd) ⟨rfl,rfl⟩
end Go.Vx
end
