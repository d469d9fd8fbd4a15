/- A part of the proof of clausalSpinesProved. -/
import Derived.Test.YtllgjklcpieanaaGreatDoorR39
set_option linter.unusedVariables false
set_option linter.unusedSimpArgs false
set_option maxRecDepth 100000
namespace Go.Vx
open Go.Proofs Go.RowKit
def EwL(es' es:List (List AV)):Prop:=es'.length=es.length/\∀ (i:Nat) (e' e:List AV),es'[i]?=some e'->es[i]?=some e->Wkl e' e/\e'.all AV.one=true
def MWk(σ:Store)(sz:Nat)(S:Store)(v:AV)(es:List (List AV)):Prop:=∃ es',MW σ sz S v es'/\EwL es' es
def KC(S S':Store):Prop:=∀ k c,S.get k=some (.cells c)->S'.get k=some (.cells c)
theorem KC.refl(S:Store):KC S S:=fun _ _ h=>h
theorem KC.trans{a b c:Store}(h:KC a b)(k:KC b c):KC a c:=fun i x hi=>k i x (h i x hi)
theorem KC.cons{S:Store}{b:Nat}(hb:Zm S b)(x:AObj):KC S ((b,x)::S):=fun k c hk=>by rw[Zg hb xC];exact hk
theorem Tv.kc{S S':Store}(h:Tv S S'):KC S S':=fun k c hk=>h k _ hk yi
theorem Tn.kc{σ0 S S':Store}{v v':AV}{sz:Nat}{es:List (List AV)}(k:Tn [] v v' S S')(h:LV σ0 S v sz es):KC S S':=fun j c g=>(k j _ g xf (h.notCells g)).1
theorem Tn.kept{σ0 S S':Store}{v v':AV}{sz:Nat}{es:List (List AV)}(k:Tn [] v v' S S')(h:LV σ0 S v sz es):Tv S S':=fun j x g hx=>(k j _ g xf (fun e=>by obtain⟨a,c,q⟩:=h.tipAt e;rw[g] at q;injection q with q;exact hx _ _ q)).1
def mO(bm:Nat)(gv:AV)(k:Nat):Prop:=k=bm\/blk gv=some k
structure MK (σ:Store) (bm:Nat) (gv:AV) (m:MSt) (S:Store):Prop where
 gm:S.get bm=some (.cells [gv,vi m.n])
 gw:MWk σ 2 S gv (cX m.gs)
 has:Has σ S
 fm:Zm σ bm
 nb:blk gv≠some bm
 n0:0<=m.n
 n1:m.n<=8000
 gl:m.gs.length<=1000000
theorem MK.own{σ S:Store}{bm:Nat}{gv:AV}{m:MSt}(h:MK σ bm gv m S):∀ b,mO bm gv b->∃ c,S.get b=some (.cells c):=fun b hb=>by
 rcases hb with rfl|hb
 ·exact⟨_,h.gm⟩
 ·obtain⟨es',hw,_⟩:=h.gw
  exact(hw.at hb).1
theorem MK.kc{σ S S':Store}{bm:Nat}{gv:AV}{m:MSt}(h:MK σ bm gv m S)(k:KC S S')(hH:Has σ S'):MK σ bm gv m S' :=
 { h with gm:=k _ _ h.gm,gw:=by obtain⟨es',hw,he⟩:=h.gw;exact⟨es',hw.cell fun b c _ hc=>k b c hc,he⟩,has:=hH }
def MSt.add(m:MSt)(k:Int):MSt:=⟨m.gs,m.n+k⟩
theorem MK.count{σ S:Store}{bm:Nat}{gv:AV}{m:MSt}(h:MK σ bm gv m S){k:Int}(hk:0<=k)(hl:m.n+k<=8000):MK σ bm gv (m.add k) (S.set bm (.cells [gv,vi (m.n+k)])) :=
 { gm:=Zd h.gm,gw:=by obtain⟨es',hw,he⟩:=h.gw;exact⟨es',hw.cell fun b c hb hc=>by rw[Za (fun e=>h.nb yd)];exact hc,he⟩,has:=h.has.set h.fm _,fm:=h.fm,nb:=h.nb,n0:=by have:=h.n0;simp only[MSt.add];omega,n1:=hl,gl:=h.gl }
theorem MK.kpc{σ S:Store}{bm:Nat}{gv:AV}{m:MSt}(h:MK σ bm gv m S)(x:AObj):Kp (mO bm gv) (mO bm gv) S (S.set bm x):=(Kp.refl _ _).set (.inl (.inl rfl)) x
structure SK (σ:Store) (bm bs:Nat) (gv vt vl:AV) (st:GSt) (S:Store):Prop where
 mkr:MK σ bm gv st.m S
 gs:S.get bs=some (.cells [.val (.pointer (some ⟨bm,0,none⟩)),vt,vl])
 wt:MW σ 2 S vt (cI st.types)
 wl:MW σ 2 S vl (cI st.locals)
 fs:Zm σ bs
 nsm:bs≠bm
 ngs:blk gv≠some bs
 ntm:blk vt≠some bm
 nts:blk vt≠some bs
 nlm:blk vl≠some bm
 nls:blk vl≠some bs
 ngt:∀ b,blk gv=some b->blk vt≠some b
 ngl:∀ b,blk gv=some b->blk vl≠some b
 ntl:∀ b,blk vt=some b->blk vl≠some b
 tl:st.types.length<=100000
 ll:st.locals.length<=st.types.length
def sO(bm bs:Nat)(gv vt vl:AV)(k:Nat):Prop:=mO bm gv k\/k=bs\/blk vt=some k\/blk vl=some k
theorem SK.own{σ S:Store}{bm bs:Nat}{gv vt vl:AV}{st:GSt}(h:SK σ bm bs gv vt vl st S):∀ b,sO bm bs gv vt vl b->∃ c,S.get b=some (.cells c):=fun b hb=>by
 rcases hb with hb|rfl|hb|hb
 ·exact h.mkr.own b hb
 ·exact⟨_,h.gs⟩
 ·exact(h.wt.at hb).1
 ·exact(h.wl.at hb).1
theorem SK.kc{σ S S':Store}{bm bs:Nat}{gv vt vl:AV}{st:GSt}(h:SK σ bm bs gv vt vl st S)(k:KC S S')(hH:Has σ S'):SK σ bm bs gv vt vl st S' :=
 { h with mkr:=h.mkr.kc k hH,gs:=k _ _ h.gs,wt:=h.wt.cell fun b c _ hc=>k b c hc,wl:=h.wl.cell fun b c _ hc=>k b c hc }
theorem SK.cons{σ S:Store}{bm bs:Nat}{gv vt vl:AV}{st:GSt}(h:SK σ bm bs gv vt vl st S){b:Nat}(hb:Zm S b)(x:AObj):SK σ bm bs gv vt vl st ((b,x)::S):=h.kc (.cons hb x) (h.mkr.has.cons _)
theorem SK.set{σ S:Store}{bm bs:Nat}{gv vt vl:AV}{st:GSt}(h:SK σ bm bs gv vt vl st S){b:Nat}(hb:¬ sO bm bs gv vt vl b)(hf:Zm σ b)(x:AObj):SK σ bm bs gv vt vl st (S.set b x):=by
 have go:∀ k,sO bm bs gv vt vl k->(S.set b x).get k=S.get k:=fun k hk=>Za (fun e=>hb (by rw[<- e];exact hk))
 have hm:MK σ bm gv st.m (S.set b x):={ h.mkr with gm:=(go _ (.inl (.inl rfl))).trans h.mkr.gm,gw:=by obtain⟨es',hw,he⟩:=h.mkr.gw;exact⟨es',hw.cell fun c d hc hd=>(go _ (.inl (.inr hc))).trans hd,he⟩,has:=h.mkr.has.set hf _ }
 exact{ h with mkr:=hm,gs:=(go _ (.inr (.inl rfl))).trans h.gs,wt:=h.wt.cell fun c d hc hd=>(go _ (.inr (.inr (.inl hc)))).trans hd,wl:=h.wl.cell fun c d hc hd=>(go _ (.inr (.inr (.inr hc)))).trans hd }
theorem SK.step{σ S S':Store}{bm bs:Nat}{gv gv' vt vl:AV}{st:GSt}{m':MSt}(h:SK σ bm bs gv vt vl st S)(hm:MK σ bm gv' m' S')(k:Kp (mO bm gv) (mO bm gv') S S'):SK σ bm bs gv' vt vl { st with m:=m' } S':=by
 have a1:=k _ _ h.gs (fun e=>e.elim h.nsm h.ngs)
 obtain⟨b1,b2⟩:=h.wt.kp k (fun b hb e=>e.elim (fun e=>h.ntm yd) (fun e=>h.ngt b e hb))
 obtain⟨c1,c2⟩:=h.wl.kp k (fun b hb e=>e.elim (fun e=>h.nlm yd) (fun e=>h.ngl b e hb))
 exact{ h with mkr:=hm,gs:=a1.1,wt:=b1,wl:=c1,ngs:=fun e=>a1.2 (.inr e),ngt:=fun b e hb=>b2 b hb (.inr e),ngl:=fun b e hb=>c2 b hb (.inr e) }
def GSt.add(st:GSt)(k:Int):GSt:={ st with m:=st.m.add k }
theorem dV(st:GSt)(a b:Int):(st.add a).add b=st.add (a+b):=by simp only[GSt.add,MSt.add,Int.add_assoc]
theorem SK.count{σ S:Store}{bm bs:Nat}{gv vt vl:AV}{st:GSt}(h:SK σ bm bs gv vt vl st S){k:Int}(hk:0<=k)(hl:st.m.n+k<=8000):SK σ bm bs gv vt vl (st.add k) (S.set bm (.cells [gv,vi (st.m.n+k)])) :=
 h.step (h.mkr.count hk hl) (h.mkr.kpc _)
abbrev Or (O T:Nat->Prop):Nat->Prop:=fun k=>O k\/T k
abbrev Tp (v:AV):Nat->Prop:=fun k=>Ym v=some k
theorem Kp.call{O O1 O2 T:Nat->Prop}{S0 S S1:Store}(h:Kp O (Or O1 T) S0 S)(k:Kp O1 O2 S S1):Kp O (Or O2 T) S0 S1:=fun j x a b=>by
 obtain⟨p,q⟩:=h j x a b
 obtain⟨u,v⟩:=k j x p (fun e=>q (.inl e))
 exact⟨u,fun e=>e.elim v (fun e=>q (.inr e))⟩
theorem Kp.tn{O O1:Nat->Prop}{v v':AV}{S0 S S1:Store}(h:Kp O (Or O1 (Tp v)) S0 S)(k:Tn [] v v' S S1):Kp O (Or O1 (Tp v')) S0 S1:=fun j x a b=>by
 obtain⟨p,q⟩:=h j x a b
 obtain⟨u,w⟩:=k j x p xf (fun e=>q (.inr e))
 exact⟨u,fun e=>e.elim (fun e=>q (.inl e)) w⟩
theorem Kp.drop{O O1 T:Nat->Prop}{S0 S:Store}(h:Kp O (Or O1 T) S0 S):Kp O O1 S0 S:=h.imp (fun _ _ e=>e) (fun _ e=>.inl e)
theorem Kp.tip0{O O1:Nat->Prop}{S0 S:Store}(h:Kp O O1 S0 S){v:AV}(hv:Ym v=none):Kp O (Or O1 (Tp v)) S0 S:=h.imp (fun _ _ e=>e) (fun _ e=>e.elim id (fun e=>by simp only[Tp,hv] at e;cases e))
theorem Kp.fresh{O O1:Nat->Prop}{S S2:Store}(k:Kp O O1 S S2)(ho:∀ b,O b->(S2.get b).isSome=true){b:Nat}(hf:Zm S2 b):Zm S b:=YJ.2 (by
 cases hg:S.get b with
 | none=>rfl
 | some x =>
   by_cases hb:O b
   ·have:=ho b hb;rw[Zj hf] at this;cases this
   ·have:=(k b x hg hb).1;rw[Zj hf] at this;cases this)
theorem QM.kp{S S':Store}{mq:nM Nat}{qf:QF}{O O':Nat->Prop}(h:QM S mq qf)(k:Kp O O' S S')(ho:∀ b,O b->∃ c,S.get b=some (.cells c)):QM S' mq qf :=
 h.keep fun r m c hr=>(k r _ hr (fun hb=>by obtain⟨c',hc⟩:=ho r hb;rw[hr] at hc;cases hc)).1
def Pn(O:Nat->Prop)(S S':Store):Prop:=∀ k x,S.get k=some x->¬ O k->S'.get k=some x
theorem Kp.pn0{O O1:Nat->Prop}{S S1:Store}(h:Kp O O1 S S1):Pn O S S1:=fun k x a b=>(h k x a b).1
theorem Kp.pn{O O1 T:Nat->Prop}{S0 S S1:Store}(h:Kp O (Or O1 T) S0 S)(k:Pn O1 S S1):Pn O S0 S1:=fun j x a b=>by
 obtain⟨p,q⟩:=h j x a b
 exact k j x p (fun e=>q (.inl e))
theorem Pn.imp{O U:Nat->Prop}{S S':Store}(h:Pn O S S')(a:∀ k,O k->U k):Pn U S S':=fun k x p q=>h k x p (fun e=>q (a k e))
theorem Pn.refl(O:Nat->Prop)(S:Store):Pn O S S:=fun _ _ h _=>h
theorem Xv(bd:List Int)(qf:QF)(l:List Tm)(i:Nat):Xx bd qf l i=l.map fun t=>teS bd qf t i:=by
 induction l with
 | nil=>rfl
 | cons a r ih=>simp[Xx,ih]
def StR(σ:Store)(bm bs:Nat)(gv vt vl:AV)(st:GSt)(S:Store)(out:AV)(k:Int):ZE->Store->Prop:=fun r S' =>
 (st.m.n+k<=8000/\r=.ret out/\SK σ bm bs gv vt vl (st.add k) S'/\Kp (mO bm gv) (mO bm gv) S S')\/(8000<st.m.n+k/\r=.pan (Y5 2)/\Has σ S'/\Pn (mO bm gv) S S')
def StC(σ:Store)(bm bs:Nat)(bd:List Int)(mq:nM Nat)(qf:QF)(V:Nat)(t:Tm):Prop :=
 ∀ (i:Nat) (gv vt vl:AV) (st:GSt) (S:Store),SK σ bm bs gv vt vl st S->QM S mq qf->scT V t (i+bd.length)=true->i+t.shape.nds<=100000 ->
   Zh nC 117 [.val (.pointer (some ⟨bs,0,none⟩)),.agg t.emb,.agg [.list .none 1 (Zu bd),.val (.map mq)],vi i] S (StR σ bm bs gv vt vl st S (.agg (teS bd qf t i).emb) t.shape.nds)
theorem Ml(σ:Store)(bm bs:Nat)(bd:List Int)(mq:nM Nat)(qf:QF)(V:Nat)(hq:mq=none->V=0)(hbd:bd.length<=900000):∀ t:Tm,StC σ bm bs bd mq qf V t:=by
 intro t
 induction t using ed with|h k n s l ih=>?_
 intro i gv vt vl st S h hQ hsc hnd
 refine Zh.ok xy (fun hok=>?_)
 refine vU fun hlen=>?_
 rw[cF] at hlen
 clear hok
 simp only[scT,kJ] at hsc
 obtain⟨hs1,hs2⟩:=hsc
 rw[UJ] at hs2
 have hkid:=fun x (hx:x∈l)=>Tm.nds_kid (k:=k) (n:=n) (s:=s) hx
 simp only[Tm.shape,Ro.nds] at hnd ⊢
 have hn0:=h.mkr.n0
 have hn1:=h.mkr.n1
 obtain⟨es',hgw,-⟩:=id h.mkr.gw
 have g1:=hgw.one.1
 have gS:=h.gs
 simp only[cO,teS]
 refine Zb [] [(6,15,17),(12,8,9)] Tryz.func117 rfl xy ?_;rw[Tryz.ntmps117,Tryz.results117]
 refine uw ?_
 intro b8 hb8
 have h1:=h.cons hb8 (.cells [vi 0,vi 0,.val (.string { data:=#[] }),.list .full 0 []])
 have k1:=(Kp.refl (mO bm gv) S).cons hb8 (.cells [vi 0,vi 0,.val (.string { data:=#[] }),.list .full 0 []])
 have f8:Zm S b8:=hb8
 obtain⟨S1,hS1⟩:∃ S1:Store,S1=(b8,AObj.cells [vi 0,vi 0,.val (.string { data:=#[] }),.list .full 0 []])::S:=⟨_,rfl⟩
 have e8:S1.get b8=some (.cells [vi 0,vi 0,.val (.string { data:=#[] }),.list .full 0 []]):=by rw[hS1];exact Ze _ _ _
 rw[<- hS1] at h1 k1 ⊢
 clear hS1 hb8
 have gs1:=h1.gs
 try simp only[go_sem,seval,gs1]
 refine(Rb bm gv st.m.n 1 S1 g1 hn0 xh xh xh h1.mkr.gm).mono ?_
 rintro r S2 ⟨rfl,(⟨hc,rfl⟩|⟨hc,rfl⟩)⟩
 rotate_left
 ·refine uw ?_
  exact .mk (.refl _) (.inr ⟨by omega,rfl,h1.mkr.has.set h1.mkr.fm _,(k1.trans (h1.mkr.kpc _)).pn0⟩)
 have h2:=h1.count (k:=1) xh hc
 have k2:=k1.trans (h1.mkr.kpc (.cells [gv,vi (st.m.n+1)]))
 have e8':(S1.set bm (.cells [gv,vi (st.m.n+1)])).get b8=some (.cells [vi 0,vi 0,.val (.string { data:=#[] }),.list .full 0 []]):=by rw[Za (Zv h.mkr.gm f8).symm];exact e8
 have hQ2:=hQ.kp k2 h.mkr.own
 generalize S1.set bm (.cells [gv,vi (st.m.n+1)])=S2 at h2 k2 e8' hQ2 ⊢
 have b8O:¬ sO bm bs gv vt vl b8:=fun e=>by obtain⟨c,hc⟩:=h.own b8 e;rw[Zj f8] at hc;cases hc
 clear h1 k1 e8 gs1
 by_cases h4:k=4
 ·subst h4
  rw[ig xj,gZ rfl] at hs1
  simp only[kJ,kD] at hs1
  have hm:mq≠none:=fun e=>by have:=hq e;omega
  rw[ig xj] at hs2
  rw[ig (fun e=>absurd e.1 xj),gZ rfl,ig xj]
  refine uw ?_
  intro b9 hb9
  refine IG PQ fa1 Bc (hQ2.keep fun r m c hr=>by rw[Zg hb9 xF];exact hr) hm ?_
  rw[Oo]
  obtain⟨o,ho⟩:∃ o:Int,(qf n).getD 0=o:=⟨_,rfl⟩
  rw[show((qf n).map vi).getD (dL (.int .i64 0))=vi o by rw[<- ho];cases qf n<;>rfl,ho]
  refine uw ?_
  have f9:Zm S2 b9:=hb9
  refine wC fun f9S=>?_
  have h3:=h2.cons f9 (.cells [vi 4,vi o,vs s,.list .full 0 []])
  have k3:=(k2.cons f9 (.cells [vi 4,vi o,vs s,.list .full 0 []])).tip0 (v:=.list .full 0 []) rfl
  have b9O:¬ sO bm bs gv vt vl b9:=fun e=>by obtain⟨c,hc⟩:=h2.own b9 e;rw[Zj f9] at hc;cases hc
  have n89:b8≠b9:=Zv e8' f9
  have f89:=h2.mkr.has.fresh f9
  refine Zp (mu:=[]) (dr:=[(6,15,17),(12,8,9)]) [11,68,69,70,71,72,73,74,75,76,77,78,79,80,81,82] (fun x:Nat×AV×Store=>[(68,vi x.1)]) (fun x=>x.2.2)
   (fun x=>x.1<=l.length/\st.m.n+1+cP (cK (l.take x.1))<=8000/\SK σ bm bs gv vt vl (st.add (1+cP (cK (l.take x.1)))) x.2.2/\x.2.2.get b9=some (.cells [vi 4,vi o,vs s,x.2.1])/\x.2.2.get b8=some (.cells [vi 0,vi 0,.val (.string { data:=#[] }),.list .full 0 []]) /\
    LV σ x.2.2 x.2.1 4 (cJ (Xx bd qf (l.take x.1) i))/\Kp (mO bm gv) (Or (mO bm gv) (Tp x.2.1)) S x.2.2) (fun x=>l.length-x.1) (0,.list .full 0 [],_) xy
   ⟨by omega,by simp only[List.take_zero,cK,cP];omega,h3,Ze _ _ _,by dsimp only;rw[Zc n89.symm];exact e8',LV.nil _ _ _,k3⟩ ⟨.refl _,trivial⟩ (.refl _) ?_
  clear h3 k3 h2 k2 e8' hQ2
  rintro⟨j,v,T⟩ ⟨hj,hcn,hT,t9,t8,tL,tK⟩
  dsimp only at hj hcn hT t9 t8 tL tK ⊢
  refine vy fun x0=>?_
  by_cases c:j<l.length
  ·refine we fun x1=>?_
   obtain⟨a,ha⟩:∃ t,l[j]?=some t:=⟨l[j],iO c⟩
   have hma:=iG ha
   have hka:=hkid a hma
   have gt:(cJ l)[j]?=some a.emb:=by rw[cW,jp,ha];rfl
   refine uV fun hw=>?_
   have hta:l.take (j+1)=l.take j++[a]:=by rw[jh,ha];rfl
   have htk:cJ (Xx bd qf (l.take (j+1)) i)=cJ (Xx bd qf (l.take j) i)++[(teS bd qf a i).emb]:=by rw[hta];simp[cW,Xv]
   refine wi fun hnd2=>?_
   have hnd3:cP (cK (l.take (j+1)))<=cP (cK l):=by
    exact pG
   have iha:=ih a hma i gv vt vl (st.add (1+cP (cK (l.take j))))
   have hsa:=hs2 a hma
   generalize teS bd qf a i=ta at iha htk
   obtain⟨ka,na,sa,la⟩:=a
   obtain⟨kt,nt,zt,lt⟩:=ta
   simp only[cO] at gt iha htk
   refine vG ?_
   intro b11 hb11
   refine wE fun U hU=>?_
   refine vW fun u11=>?_
   have u9:U.get b9=some (.cells [vi 4,vi o,vs s,v]):=by rw[hU,Zg hb11 (by rw[t9];rfl)];exact t9
   refine vH fun u8=>?_
   have uT:=hT.cons hb11 (.cells [vi ka,vi na,vs sa,.list .none 4 (cJ la)])
   have uL:=tL.cons hb11 (.cells [vi ka,vi na,vs sa,.list .none 4 (cJ la)])
   have uK:=tK.cons hb11 (.cells [vi ka,vi na,vs sa,.list .none 4 (cJ la)])
   have b11O:¬ mO bm gv b11:=fun e=>by obtain⟨c,hc⟩:=hT.mkr.own b11 e;rw[Zj hb11] at hc;cases hc
   rw[<- hU] at uT uL uK ⊢
   clear hU hb11 hT t9 t8 tL tK
   try simp only[go_sem,seval,u9,u11,uL.one,uL.cells]
   refine wS ?_
   rintro r U2 (⟨hc2,rfl,hT2,hk2⟩|⟨hc2,rfl,hH2,hP2⟩)
   ·have w9:=(hk2 _ _ u9 (fun e=>b9O (.inl e))).1
    have w8:=(hk2 _ _ u8 (fun e=>b8O (.inl e))).1
    have w11:=(hk2 _ _ u11 b11O).1
    have wL:=uL.kp hk2 uT.mkr.own
    have wK:=uK.call hk2
    try simp only[go_sem,seval,w9,w11,wL.one,wL.cells]
    refine⟨rfl,wL.appT rfl xj yE rfl xf hT2.mkr.has (fun v' S' hv' hT' hS'=>?_)⟩
    have kc:=hT'.kc wL
    have x9:=kc _ _ w9
    have x8:=kc _ _ w8
    have hT3:=hT2.kc kc hS'
    rw[dV,show(1+(cP (cK (l.take j)):Int)+(Tm.mk ka na sa la).shape.nds)=1+(cP (cK (l.take (j+1))):Int) by rw[hnd2];omega] at hT3
    try simp only[go_sem,seval,x9,hw,hv'.one,hv'.cells]
    exact .mk (j+1,v',S'.set b9 (.cells [vi 4,vi o,vs s,v'])) ⟨by omega,by simp only[GSt.add,MSt.add] at hc2;dsimp only;omega,hT3.set b9O f89 _,Zd x9,by dsimp only;rw[Za n89];exact x8,by dsimp only;rw[htk];exact hv'.set x9 xf _,(wK.tn hT').set (.inr f9S) _⟩ xX ⟨.refl _,trivial⟩ yS (.refl _)
   ·exact oY
  ·have x1:((j:Int)<(l.length:Int))=False:=iU xh
   rw[show l.take j=l from iW xh] at tL hT hcn
   refine wX ?_
   exact .mk (Wkl.agg (show Wkl [vi 4,vi o,vs s,v] [vi 4,vi o,vs s,.list .none 4 (cJ (Xx bd qf l i))] from⟨.refl _,.refl _,.refl _,tL.wk,trivial⟩)) (.refl _) (.inl ⟨by omega,rfl,hT.set b8O (h.mkr.has.fresh f8) _,tK.drop.set (.inr f8) _⟩)
 have z4:=iU h4
 rw[ig h4] at hs1
 rw[ig h4]
 by_cases h2':k=2/\(i:Int)<=n
 ·obtain⟨rfl,hin⟩:=h2'
  rw[gZ rfl] at hs1
  simp only[kJ,kD] at hs1
  rw[ig xj] at hs2
  rw[gZ ⟨rfl,hin⟩,gZ ⟨rfl,hin⟩,ig xj]
  have x2:(n>=(i:Int))=True:=iS hin
  obtain⟨j,hj⟩:∃ j:Nat,j=bd.length-1-(n-i).toNat:=⟨_,rfl⟩
  have hjl:j<bd.length:=by omega
  have w1:IntKind.i64.wrap ((bd.length:Int)-1)=(bd.length:Int)-1:=Zk xh xh
  have w2:IntKind.i64.wrap (n-(i:Int))=n-i:=Zk xh xh
  have w3:IntKind.i64.wrap ((bd.length:Int)-1-(n-(i:Int)))=(j:Int):=by rw[Zk xh xh];omega
  have hat:atB bd i n=bd[j]:=by
   unfold atB
   rw[<- hj,jQ,iO hjl,ko]
  have gb:(Zu bd)[j]?=some [vi (bd[j])]:=by simp[Zu,hjl]
  rw[hat]
  generalize bd[j]=m at gb
  have xj0:(0<=(j:Int))=True:=iS xh
  have xj1:((j:Int)<(bd.length:Int))=True:=iS xh
  try simp only[go_sem,seval,z4,x2,w1,w2,w3,ZZ,xj0,xj1,gb,iT,iV,iF,jq,jr,jt]
  intro b9 hb9
  try simp only[go_sem,seval,z4,x2,w1,w2,w3,ZZ,xj0,xj1,gb,iT,iV,iF,jq,jr,jt]
  have f9:Zm S2 b9:=hb9
  refine wC fun f9S=>?_
  have h3:=h2.cons f9 (.cells [vi 4,vi m,vs s,.list .full 0 []])
  have k3:=(k2.cons f9 (.cells [vi 4,vi m,vs s,.list .full 0 []])).tip0 (v:=.list .full 0 []) rfl
  have b9O:¬ sO bm bs gv vt vl b9:=fun e=>by obtain⟨c,hc⟩:=h2.own b9 e;rw[Zj f9] at hc;cases hc
  have n89:b8≠b9:=Zv e8' f9
  have f89:=h2.mkr.has.fresh f9
  refine Zp (mu:=[]) (dr:=[(6,15,17),(12,8,9)]) [11,68,69,70,71,72,73,74,75,76,77,78,79,80,81,82] (fun x:Nat×AV×Store=>[(68,vi x.1)]) (fun x=>x.2.2)
   (fun x=>x.1<=l.length/\st.m.n+1+cP (cK (l.take x.1))<=8000/\SK σ bm bs gv vt vl (st.add (1+cP (cK (l.take x.1)))) x.2.2/\x.2.2.get b9=some (.cells [vi 4,vi m,vs s,x.2.1])/\x.2.2.get b8=some (.cells [vi 0,vi 0,.val (.string { data:=#[] }),.list .full 0 []]) /\
    LV σ x.2.2 x.2.1 4 (cJ (Xx bd qf (l.take x.1) i))/\Kp (mO bm gv) (Or (mO bm gv) (Tp x.2.1)) S x.2.2) (fun x=>l.length-x.1) (0,.list .full 0 [],_) xy
   ⟨by omega,by simp only[List.take_zero,cK,cP];omega,h3,Ze _ _ _,by dsimp only;rw[Zc n89.symm];exact e8',LV.nil _ _ _,k3⟩ ⟨.refl _,trivial⟩ (.refl _) ?_
  clear h3 k3 h2 k2 e8' hQ2
  rintro⟨j,v,T⟩ ⟨hj,hcn,hT,t9,t8,tL,tK⟩
  dsimp only at hj hcn hT t9 t8 tL tK ⊢
  refine vy fun x0=>?_
  by_cases c:j<l.length
  ·refine we fun x1=>?_
   obtain⟨a,ha⟩:∃ t,l[j]?=some t:=⟨l[j],iO c⟩
   have hma:=iG ha
   have hka:=hkid a hma
   have gt:(cJ l)[j]?=some a.emb:=by rw[cW,jp,ha];rfl
   refine uV fun hw=>?_
   have hta:l.take (j+1)=l.take j++[a]:=by rw[jh,ha];rfl
   have htk:cJ (Xx bd qf (l.take (j+1)) i)=cJ (Xx bd qf (l.take j) i)++[(teS bd qf a i).emb]:=by rw[hta];simp[cW,Xv]
   refine wi fun hnd2=>?_
   have hnd3:cP (cK (l.take (j+1)))<=cP (cK l):=by
    exact pG
   have iha:=ih a hma i gv vt vl (st.add (1+cP (cK (l.take j))))
   have hsa:=hs2 a hma
   generalize teS bd qf a i=ta at iha htk
   obtain⟨ka,na,sa,la⟩:=a
   obtain⟨kt,nt,zt,lt⟩:=ta
   simp only[cO] at gt iha htk
   refine vG ?_
   intro b11 hb11
   refine wE fun U hU=>?_
   refine vW fun u11=>?_
   have u9:U.get b9=some (.cells [vi 4,vi m,vs s,v]):=by rw[hU,Zg hb11 (by rw[t9];rfl)];exact t9
   refine vH fun u8=>?_
   have uT:=hT.cons hb11 (.cells [vi ka,vi na,vs sa,.list .none 4 (cJ la)])
   have uL:=tL.cons hb11 (.cells [vi ka,vi na,vs sa,.list .none 4 (cJ la)])
   have uK:=tK.cons hb11 (.cells [vi ka,vi na,vs sa,.list .none 4 (cJ la)])
   have b11O:¬ mO bm gv b11:=fun e=>by obtain⟨c,hc⟩:=hT.mkr.own b11 e;rw[Zj hb11] at hc;cases hc
   rw[<- hU] at uT uL uK ⊢
   clear hU hb11 hT t9 t8 tL tK
   try simp only[go_sem,seval,u9,u11,uL.one,uL.cells]
   refine wS ?_
   rintro r U2 (⟨hc2,rfl,hT2,hk2⟩|⟨hc2,rfl,hH2,hP2⟩)
   ·have w9:=(hk2 _ _ u9 (fun e=>b9O (.inl e))).1
    have w8:=(hk2 _ _ u8 (fun e=>b8O (.inl e))).1
    have w11:=(hk2 _ _ u11 b11O).1
    have wL:=uL.kp hk2 uT.mkr.own
    have wK:=uK.call hk2
    try simp only[go_sem,seval,w9,w11,wL.one,wL.cells]
    refine⟨rfl,wL.appT rfl xj yE rfl xf hT2.mkr.has (fun v' S' hv' hT' hS'=>?_)⟩
    have kc:=hT'.kc wL
    have x9:=kc _ _ w9
    have x8:=kc _ _ w8
    have hT3:=hT2.kc kc hS'
    rw[dV,show(1+(cP (cK (l.take j)):Int)+(Tm.mk ka na sa la).shape.nds)=1+(cP (cK (l.take (j+1))):Int) by rw[hnd2];omega] at hT3
    try simp only[go_sem,seval,x9,hw,hv'.one,hv'.cells]
    exact .mk (j+1,v',S'.set b9 (.cells [vi 4,vi m,vs s,v'])) ⟨by omega,by simp only[GSt.add,MSt.add] at hc2;dsimp only;omega,hT3.set b9O f89 _,Zd x9,by dsimp only;rw[Za n89];exact x8,by dsimp only;rw[htk];exact hv'.set x9 xf _,(wK.tn hT').set (.inr f9S) _⟩ xX ⟨.refl _,trivial⟩ yS (.refl _)
   ·exact oY
  ·have x1:((j:Int)<(l.length:Int))=False:=iU xh
   rw[show l.take j=l from iW xh] at tL hT hcn
   refine wX ?_
   exact .mk (Wkl.agg (show Wkl [vi 4,vi m,vs s,v] [vi 4,vi m,vs s,.list .none 4 (cJ (Xx bd qf l i))] from⟨.refl _,.refl _,.refl _,tL.wk,trivial⟩)) (.refl _) (.inl ⟨by omega,rfl,hT.set b8O (h.mkr.has.fresh f8) _,tK.drop.set (.inr f8) _⟩)
 ·rw[ig h2',ig h2']
  have x2:((k=2)=False)\/((k=2)=True/\(n>=(i:Int))=False):=by
   by_cases e:k=2
   ·exact .inr ⟨iS e,iU fun h=>h2' ⟨e,h⟩⟩
   ·exact .inl (iU e)
  by_cases h5:k=5
  ·subst h5
   rw[gZ rfl] at hs2
   rw[gZ rfl]
   refine uE fun hw=>?_
   rw[show i+bd.length+1=i+1+bd.length by omega] at hs2
   try simp only[go_sem,seval,hw,iT,iV]
   intro b9 hb9
   try simp only[go_sem,seval,hw,iT,iV]
   have f9:Zm S2 b9:=hb9
   refine wC fun f9S=>?_
   have h3:=h2.cons f9 (.cells [vi 5,vi n,vs s,.list .full 0 []])
   have k3:=(k2.cons f9 (.cells [vi 5,vi n,vs s,.list .full 0 []])).tip0 (v:=.list .full 0 []) rfl
   have b9O:¬ sO bm bs gv vt vl b9:=fun e=>by obtain⟨c,hc⟩:=h2.own b9 e;rw[Zj f9] at hc;cases hc
   have n89:b8≠b9:=Zv e8' f9
   have f89:=h2.mkr.has.fresh f9
   refine Zp (mu:=[]) (dr:=[(6,15,17),(12,8,9)]) [11,68,69,70,71,72,73,74,75,76,77,78,79,80,81,82] (fun x:Nat×AV×Store=>[(68,vi x.1)]) (fun x=>x.2.2)
    (fun x=>x.1<=l.length/\st.m.n+1+cP (cK (l.take x.1))<=8000/\SK σ bm bs gv vt vl (st.add (1+cP (cK (l.take x.1)))) x.2.2/\x.2.2.get b9=some (.cells [vi 5,vi n,vs s,x.2.1])/\x.2.2.get b8=some (.cells [vi 0,vi 0,.val (.string { data:=#[] }),.list .full 0 []]) /\
     LV σ x.2.2 x.2.1 4 (cJ (Xx bd qf (l.take x.1) (i+1)))/\Kp (mO bm gv) (Or (mO bm gv) (Tp x.2.1)) S x.2.2) (fun x=>l.length-x.1) (0,.list .full 0 [],_) xy
    ⟨by omega,by simp only[List.take_zero,cK,cP];omega,h3,Ze _ _ _,by dsimp only;rw[Zc n89.symm];exact e8',LV.nil _ _ _,k3⟩ ⟨.refl _,trivial⟩ (.refl _) ?_
   clear h3 k3 h2 k2 e8' hQ2
   rintro⟨j,v,T⟩ ⟨hj,hcn,hT,t9,t8,tL,tK⟩
   dsimp only at hj hcn hT t9 t8 tL tK ⊢
   refine vy fun x0=>?_
   by_cases c:j<l.length
   ·refine we fun x1=>?_
    obtain⟨a,ha⟩:∃ t,l[j]?=some t:=⟨l[j],iO c⟩
    have hma:=iG ha
    have hka:=hkid a hma
    have gt:(cJ l)[j]?=some a.emb:=by rw[cW,jp,ha];rfl
    refine uV fun hw=>?_
    have hta:l.take (j+1)=l.take j++[a]:=by rw[jh,ha];rfl
    have htk:cJ (Xx bd qf (l.take (j+1)) (i+1))=cJ (Xx bd qf (l.take j) (i+1))++[(teS bd qf a (i+1)).emb]:=by rw[hta];simp[cW,Xv]
    refine wi fun hnd2=>?_
    have hnd3:cP (cK (l.take (j+1)))<=cP (cK l):=by
     exact pG
    have iha:=ih a hma (i+1) gv vt vl (st.add (1+cP (cK (l.take j))))
    have hsa:=hs2 a hma
    generalize teS bd qf a (i+1)=ta at iha htk
    obtain⟨ka,na,sa,la⟩:=a
    obtain⟨kt,nt,zt,lt⟩:=ta
    simp only[cO] at gt iha htk
    refine vG ?_
    intro b11 hb11
    refine wE fun U hU=>?_
    refine vW fun u11=>?_
    have u9:U.get b9=some (.cells [vi 5,vi n,vs s,v]):=by rw[hU,Zg hb11 (by rw[t9];rfl)];exact t9
    refine vH fun u8=>?_
    have uT:=hT.cons hb11 (.cells [vi ka,vi na,vs sa,.list .none 4 (cJ la)])
    have uL:=tL.cons hb11 (.cells [vi ka,vi na,vs sa,.list .none 4 (cJ la)])
    have uK:=tK.cons hb11 (.cells [vi ka,vi na,vs sa,.list .none 4 (cJ la)])
    have b11O:¬ mO bm gv b11:=fun e=>by obtain⟨c,hc⟩:=hT.mkr.own b11 e;rw[Zj hb11] at hc;cases hc
    rw[<- hU] at uT uL uK ⊢
    clear hU hb11 hT t9 t8 tL tK
    try simp only[go_sem,seval,u9,u11,uL.one,uL.cells]
    refine wS ?_
    rintro r U2 (⟨hc2,rfl,hT2,hk2⟩|⟨hc2,rfl,hH2,hP2⟩)
    ·have w9:=(hk2 _ _ u9 (fun e=>b9O (.inl e))).1
     have w8:=(hk2 _ _ u8 (fun e=>b8O (.inl e))).1
     have w11:=(hk2 _ _ u11 b11O).1
     have wL:=uL.kp hk2 uT.mkr.own
     have wK:=uK.call hk2
     try simp only[go_sem,seval,w9,w11,wL.one,wL.cells]
     refine⟨rfl,wL.appT rfl xj yE rfl xf hT2.mkr.has (fun v' S' hv' hT' hS'=>?_)⟩
     have kc:=hT'.kc wL
     have x9:=kc _ _ w9
     have x8:=kc _ _ w8
     have hT3:=hT2.kc kc hS'
     rw[dV,show(1+(cP (cK (l.take j)):Int)+(Tm.mk ka na sa la).shape.nds)=1+(cP (cK (l.take (j+1))):Int) by rw[hnd2];omega] at hT3
     try simp only[go_sem,seval,x9,hw,hv'.one,hv'.cells]
     exact .mk (j+1,v',S'.set b9 (.cells [vi 5,vi n,vs s,v'])) ⟨by omega,by simp only[GSt.add,MSt.add] at hc2;dsimp only;omega,hT3.set b9O f89 _,Zd x9,by dsimp only;rw[Za n89];exact x8,by dsimp only;rw[htk];exact hv'.set x9 xf _,(wK.tn hT').set (.inr f9S) _⟩ xX ⟨.refl _,trivial⟩ yS (.refl _)
    ·exact oY
   ·have x1:((j:Int)<(l.length:Int))=False:=iU xh
    rw[show l.take j=l from iW xh] at tL hT hcn
    refine wX ?_
    exact .mk (Wkl.agg (show Wkl [vi 5,vi n,vs s,v] [vi 5,vi n,vs s,.list .none 4 (cJ (Xx bd qf l (i+1)))] from⟨.refl _,.refl _,.refl _,tL.wk,trivial⟩)) (.refl _) (.inl ⟨by omega,rfl,hT.set b8O (h.mkr.has.fresh f8) _,tK.drop.set (.inr f8) _⟩)
  ·have z5:=iU h5
   rw[ig h5] at hs2
   rw[ig h5]
   rcases x2 with x2|⟨x2,x3⟩
   ·try simp only[go_sem,seval,z4,z5,x2,iT,iV]
    intro b9 hb9
    try simp only[go_sem,seval,z4,z5,x2,iT,iV]
    exact nS
   ·try simp only[go_sem,seval,z4,z5,x2,x3,iT,iV]
    intro b9 hb9
    try simp only[go_sem,seval,z4,z5,x2,x3,iT,iV]
    exact nS
end Go.Vx
