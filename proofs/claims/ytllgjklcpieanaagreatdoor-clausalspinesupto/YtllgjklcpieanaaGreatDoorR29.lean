/- A part of the proof of clausalSpinesProved. -/
import Derived.Test.YtllgjklcpieanaaGreatDoorR25
import Derived.Test.YtllgjklcpieanaaGreatDoorR22
set_option linter.unusedVariables false
set_option linter.unusedSimpArgs false
set_option maxRecDepth 100000
section
namespace Go.Vx
open Go.Proofs Go.RowKit
theorem Zh.nd{P:nE}{f:nL}{args:List AV}{σ:Store}{R:ZE->Store->Prop}(h:Zh P f args σ R):Zh P f args σ (fun r S=>R r S/\(S.map (·.1)).Nodup) :=
 ⟨h.1,fun w vs a b=>(h.2 w vs a b).mono fun e w' he=>by
  cases e with
  | returned v=>obtain⟨av,σ',a,b,c,d⟩:=he;exact⟨av,σ',⟨a,c.nodup⟩,b,c,d⟩
  | panicked c=>obtain⟨pv,σ',e,a,c,d⟩:=he;exact⟨pv,σ',e,⟨a,c.nodup⟩,c,d⟩
  | outgrown=>exact he⟩
theorem Has.sees{S S':Store}(h:Has S S')(hn:(S'.map (·.1)).Nodup):Xl S S':=fun b x hb=>h.get hn hb
theorem Has.trans{a b c:Store}(h:Has a b)(k:Has b c):Has a c:=fun p hp=>k p (h p hp)
theorem LV.base{σ0 S S':Store}{v:AV}{sz:Nat}{es:List (List AV)}(h:LV S S' v sz es)(k:Has σ0 S):LV σ0 S' v sz es:=by
 exact rX
theorem gE{sz by_:Nat}{z:nG}{σ0 S:Store}{v:AV}{es ys:List (List AV)}{r2:Rt}{s2:Nat}{K:AV->Store->Prop}(h:LV σ0 S v sz es)
 (hzs:z.cells.size=sz) (hb5:by_<=512) (hl:es.length+ys.length<=137438953472) (h2:s2=sz\/ys=[]) (hH:Has σ0 S) (k:∀ v' S',LV σ0 S' v' sz (es++ys)->Tv S S'->Has σ0 S'->K v' S'):apZ (some sz) (some z) (some by_) v (.list r2 s2 ys) S K:=by
 by_cases hne:ys=[]
 ·obtain⟨rt,s',rfl,hsz,ht⟩:=h
  subst hne
  unfold apZ
  refine⟨hzs,hb5,by simp only[lim];simpa using hl,hsz,.inr rfl,?_⟩
  rcases ht with⟨rfl,rfl⟩|⟨b0,e0,c0,rfl,rfl,hg,hf⟩
  ·exact⟨fun _=>k _ _ (gC _ _ _ _) (.refl _) hH,fun h=>absurd rfl h⟩
  ·exact pw
 ·exact h.append hzs hb5 hl (h2.resolve_right hne) hne hH k
theorem JS.keep{D:Jd}{vars:List Nt}{e:nM Nat}{env:List Plc}{S S':Store}(h:JS D vars e env S)(kc:∀ b c,S.get b=some (.cells c)->S'.get b=some (.cells c))(km:∀ b m c,S.get b=some (.map m c)->S'.get b=some (.map m c))(hH:Has D.σ0 S'):JS D vars e env S':=by
 obtain⟨v,va,g,hv,hva⟩:=h.gj
 refine{ h with gj:=⟨v,va,kc _ _ g,?_,hva⟩,g0:=km _ _ _ h.g0,g1:=km _ _ _ h.g1,g2:=km _ _ _ h.g2,has:=hH }
 rcases hv with q|⟨b,cap,rest,q1,q2,q3,q4⟩
 ·exact .inl q
 ·exact .inr ⟨b,cap,rest,q1,q2,kc _ _ q3,q4⟩
theorem JS.keepL{D:Jd}{vars:List Nt}{e:nM Nat}{env:List Plc}{S S':Store}(h:JS D vars e env S)(k:Xc S S')(hH:Has D.σ0 S'):JS D vars e env S' :=
 h.keep (fun b c hb=>k _ _ hb xZ) (fun b m c hb=>k _ _ hb xZ) hH
theorem JS.kept{D:Jd}{vars:List Nt}{e:nM Nat}{env:List Plc}{S S':Store}(h:JS D vars e env S)(k:Tv S S')(hH:Has D.σ0 S'):JS D vars e env S' :=
 h.keep (fun b c hb=>k _ _ hb yj) (fun b m c hb=>k _ _ hb yj) hH
def Wh(d:Pd):Bool:=decide (1<=d.kind)&&decide (d.kind<=3)&&(decide (d.modes.length=0) || decide (d.modes.length=d.types.length))&&!(d.modes.any fun m=>decide (m<0) || decide (2<m))
def Gc(hasT:Str->Bool)(p:Pg):Bool:=Xw (ZC 1) p.types []&&Xw (ZC 1) (p.consts.map Nt.name++p.preds.map Pd.name) []&&(VQ p).all (YN hasT)&&p.preds.all Wh
theorem Lo(c:Nt):Pur nC 276 [.agg c.emb] (vs c.name):=by
 intro σ
 obtain⟨s,⟨ts,tl⟩⟩:=c
 simp only[eb]
 refine Zb [] [] Tryz.func276 rfl xy ?_;rw[Tryz.ntmps276,Tryz.results276]
 exact oG
theorem Ln(c:Pd):Pur nC 278 [.agg c.emb] (vs c.name):=by
 intro σ
 obtain⟨s,ts,k,m⟩:=c
 simp only[Pd.emb]
 refine Zb [] [] Tryz.func278 rfl xy ?_;rw[Tryz.ntmps278,Tryz.results278]
 exact oG
theorem Lm(m:Int):Pur nC 280 [vi m] (vb (decide (m<0) || decide (2<m))):=by
 intro σ
 refine Zb [] [] Tryz.func280 rfl xy ?_;rw[Tryz.ntmps280,Tryz.results280]
 refine uw ?_
 by_cases h:m<0
 ·have x:=iS h
  try simp only[go_sem,seval,x,iT]
  exact Zs xf
 ·have x:=iU h
  try simp only[go_sem,seval,x,iV]
  exact Zs xf
theorem aH(σ:Store)(l:List Int)(rt:Rt)(sz:Nat)(hs:sz=1\/l=[])(f:nG)(q:Int->Bool)(hf:∀ d∈l,ZH nC (.val f) [vi d] σ (ZP (vb (q d)) σ)) :
 Zh nC 173 [.list rt sz (Zu l),.val f] σ (ZP (vb (l.any q)) σ):=by
 refine Ru ?_
 have h:=Wn f rt sz (l.map vi) (fun _=>σ) (fun i=>TY q l[i]?) (hs.imp id (fun h=>by rw[h];rfl)) (fun i e he _=>by
  rw[jp,kQ] at he
  obtain⟨m,hm,rfl⟩:=he
  simp only[hm,TY]
  exact hf m (iG hm))
 have e1:(l.map vi).map (fun x=>[x])=Zu l:=by simp[Zu]
 rw[e1,io] at h
 exact h
theorem K9(p:Pg)(hp:OT p)(hl1:p.consts.length<=1000000)(hl2:p.preds.length<=1000000)(D:Jd)(vars:List Nt)(e:nM Nat)(env:List Plc)(S:Store)(h:JS D vars e env S) :
 Zh nC 244 [.val (.pointer (some ⟨D.jb,0,none⟩)),.agg p.emb] S (ZP (vb (Gc D.hasT p)) S):=by
 refine Zh.nodup xy (fun hnd=>?_)
 have hdc:=TW p
 have hIt:=fun b=>UR b p hp
 refine Un Tryz.func244 rfl xy ?_
 rw[Tryz.ntmps244,Tryz.results244]
 refine vu ?_
 obtain⟨p0,hp0⟩:∃ p0,p0=p:=⟨_,rfl⟩
 rw[<- hp0] at hdc hIt ⊢
 obtain⟨ts,cs,ds,rs,qs⟩:=p
 refine vE fun he=>?_
 simp only[he] at hdc ⊢
 refine uw ?_
 intro b2 hb2 b4 hb4
 simp only[ZW]
 have J0:=(h.cons hb2 (.cells [.val (.pointer (some ⟨D.jb,0,none⟩))])).cons hb4 (.cells [.val (.bool false)])
 have n42:=iC hb4.1
 have n24:=hb4.1
 obtain⟨S4,hS4⟩:∃ S4:Store,S4=(b4,AObj.cells [AV.val (Value.bool false)])::(b2,AObj.cells [AV.val (Value.pointer (some { block:=D.jb,off:=0 }))])::S:=⟨_,rfl⟩
 have H4:Has S S4:=by rw[hS4];exact((Has.refl S).cons _).cons _
 have g4:S4.get b4=some (.cells [vb false]):=by rw[hS4,Ze]
 have g2:S4.get b2=some (.cells [.val (.pointer (some ⟨D.jb,0,none⟩))]):=by rw[hS4,Zc n42,Ze]
 have f4:Zm S b4:=hb4.2
 rw[<- hS4] at J0 ⊢
 clear hb4 hS4
 refine .seq (.of ?_)
 refine eR [] 6 [9,10,11,12,13,14] [(9,[]),(10,[(0,9)]),(11,[(1,10)]),(12,[]),(13,[(3,12)]),(14,[(4,13)])] [(2,11),(5,14)] (fun i v S=>match i with
  | 0=>v=.ro [.list .none 3 (cZ cs),.list .none 4 (df ds),.list .none 8 (dx rs),.list .none 8 (dy qs)]
  | 1=>v=.list .none 3 (cZ cs)
  | 2=>LV S4 S v 1 (ZX (cs.map Nt.name))
  | 3=>v=.ro [.list .none 4 (df ds),.list .none 8 (dx rs),.list .none 8 (dy qs)]
  | 4=>v=.list .none 4 (df ds)
  | _=>LV S4 S v 1 (ZX (ds.map Pd.name))) Xl (fun S=>Xl S4 S/\Has S4 S) xy xy ?_ ⟨.refl _,.refl _⟩ ?_ ?_
 ·intro i v S S' hR h
  match i,h with
  | 0,h=>exact h
  | 1,h=>exact h
  | 2,h=>exact h.keep hR
  | 3,h=>exact h
  | 4,h=>exact h
  | _+5,h=>exact h.keep hR
 ·refine wZ ?_
  refine⟨?_,?_,?_,?_,?_,?_,trivial⟩
  ·exact qE
  ·exact uq
  ·rintro fr S hk hG ⟨h1,-⟩
   try simp only[go_sem,seval,h1]
   refine(CH cs _ Nt.name hl1 (fun a _=>Lo a) S).nd.mono ?_
   exact rA
  ·exact qE
  ·exact uq
  ·rintro fr S hk hG ⟨h1,-⟩
   try simp only[go_sem,seval,h1]
   refine(CF ds _ Pd.name hl2 (fun a _=>Ln a) S).nd.mono ?_
   exact rA
 rintro fr S5 hk ⟨hG1,hG2⟩ ⟨h11,h14',-⟩
 have q2:fr 2=.val (.pointer (some ⟨b2,0,none⟩)):=hk 2 rfl
 have q3:fr 3=.ro [.list .none 1 (ZX ts),.list .none 3 (cZ cs),.list .none 4 (df ds),.list .none 8 (dx rs),.list .none 8 (dy qs)]:=hk 3 rfl
 refine wV fun q4=>?_
 clear hk
 replace J0:=J0.sees hG1 hG2
 replace g2:=hG1 _ _ g2
 replace g4:=hG1 _ _ g4
 have h14:LV S4 S5 (fr 14) 1 (ZX (ds.map Pd.name)):=h14'
 obtain⟨rt2,s2,q14,hz2,-⟩:=h14
 try simp only[go_sem,seval,q14]
 refine gE (S:=S5) h11 rfl xj (by have:=hl1;have:=hl2;simp only[ZX,io] at *;omega) hz2 hG2 (fun v S6 hv hkp hH=>?_)
 replace J0:=J0.kept hkp ((J0.has.trans (Has.refl _)) |> fun _=>by intro p hp;exact hH _ (Has.trans (fun q hq=>hq) (Has.refl _) _ ((h.has.trans H4) p hp)))
 replace g2:=hkp _ _ g2 yj
 replace g4:=hkp _ _ g4 yj
 have H6:Has S S6:=H4.trans hH
 clear hkp hH hG1 hG2 h11 q14 hz2
 obtain⟨rt,sz,rfl,hz,-⟩:=hv
 have es:ZX (cs.map Nt.name)++ZX (ds.map Pd.name)=ZX (cs.map Nt.name++ds.map Pd.name):=by simp[ZX]
 rw[es] at hz ⊢
 have hd1:=Vf 108 (ZC 1) (fun s=>Ub s) ts .none 1 (.inl rfl) (by have:=hp.types;exact this)
 have hd2:=Vf 108 (ZC 1) (fun s=>Ub s) (cs.map Nt.name++ds.map Pd.name) rt sz (hz.imp id (fun h=>by simpa[ZX] using h)) (by have:=hl1;have:=hl2;simp only[ii,io] at *;omega)
 have hS:Gc D.hasT p0=(Xw (ZC 1) ts []&&Xw (ZC 1) (cs.map Nt.name++ds.map Pd.name) []&&(VQ p0).all (YN D.hasT)&&ds.all Wh):=by unfold Gc;rw[hp0]
 rw[hS]
 generalize Xw (ZC 1) ts []=v1 at hd1 ⊢
 generalize Xw (ZC 1) (cs.map Nt.name++ds.map Pd.name) []=v2 at hd2 ⊢
 refine uw ?_
 simp only[ZW]
 refine uA ?_
 try simp only[go_sem,seval,q3]
 refine hd1.use ?_
 cases v1 with
 | false =>
   exact tQ
 | true =>
 refine uw ?_
 refine hd2.use ?_
 cases v2 with
 | false =>
   exact tQ
 | true =>
 refine uw ?_
 simp only[ZW]
 refine vD ?_
 try simp only[go_sem,seval,q3]
 refine hdc _ _ (fun bd hbd=>?_)
 have hfe:(fun s=>(Z3 D.mt s).isSome)=D.hasT:=funext J0.lt.2
 have J1:=J0.cons hbd (.cells [.list .none 1 (ZX ts),.list .none 3 (cZ cs),.list .none 4 (df ds),.list .none 8 (dx rs),.list .none 8 (dy qs)])
 have H7:=H6.cons (bd,AObj.cells [.list .none 1 (ZX ts),.list .none 3 (cZ cs),.list .none 4 (df ds),.list .none 8 (dx rs),.list .none 8 (dy qs)])
 have gd:Y3 bd p0 ((bd,AObj.cells [.list .none 1 (ZX ts),.list .none 3 (cZ cs),.list .none 4 (df ds),.list .none 8 (dx rs),.list .none 8 (dy qs)])::S6):=by show Store.get _ _=_;rw[he];exact Ze _ _ _
 have kp:∀ (c:Nat) (y:AObj),S6.get c=some y->Store.get ((bd,AObj.cells [.list .none 1 (ZX ts),.list .none 3 (cZ cs),.list .none 4 (df ds),.list .none 8 (dx rs),.list .none 8 (dy qs)])::S6) c=some y:=fun c y hy=>by rw[Zg hbd xE];exact hy
 replace g2:=kp _ _ g2
 replace g4:=kp _ _ g4
 refine uw ?_
 generalize((bd,AObj.cells [.list .none 1 (ZX ts),.list .none 3 (cZ cs),.list .none 4 (df ds),.list .none 8 (dx rs),.list .none 8 (dy qs)])::S6:List (Nat×AObj))=S7 at J1 H7 gd g2 g4 ⊢
 simp only[ZW]
 refine .block (.rangeI (e:=tyA) (L:=VQ p0) 271 #[.pointer (some ⟨bd,0,none⟩)] (Y3 bd p0) [b4]
  (fun q S'=>q.all (YN D.hasT)=true/\S'.get b4=some (.cells [vb false])/\S'.get b2=some (.cells [.val (.pointer (some ⟨D.jb,0,none⟩))])/\Y3 bd p0 S'/\JS D vars e env S'/\Has S S')
  (fun c q S'=>c=.ret/\q.all (YN D.hasT)=false/\S'.get b4=some (.cells [vb false])/\Has S S') xy yy (hIt bd) ⟨rfl,g4,g2,gd,J1,H7⟩ ?_ ?_ ?_ ?_ ?_ ?_ ?_ ?_)
 ·rintro q S' k x ⟨i1,i2,i3,i4,i5,i6⟩ hk
  have kl:=Xc.cons hk x
  exact⟨i1,kl _ _ i2 xZ,kl _ _ i3 xZ,kl _ _ i4 xZ,i5.cons hk x,i6.cons _⟩
 ·rintro q S' l r x ⟨i1,i2,i3,i4,i5,i6⟩ hl hg
  have kl:=Xc.set hg x
  exact⟨i1,kl _ _ i2 xZ,kl _ _ i3 xZ,kl _ _ i4 xZ,i5.keepL kl (i5.has.set (J1.has.fresh hl) _),i6.set (H7.fresh hl) _⟩
 ·rintro c q S' l r x ⟨i1,i2,i3,i4⟩ hl hg
  have kl:=Xc.set hg x
  exact⟨i1,i2,kl _ _ i3 xZ,i4.set (H7.fresh hl) _⟩
 ·rintro q S' ⟨i1,i2,i3,i4,i5,i6⟩;exact i4
 ·rintro q S' ⟨i1,i2,i3,i4,i5,i6⟩ k hk
  rw[List.mem_singleton.1 hk,i2];rfl
 ·intro tmps hsz htm q a S' hJ
  have t2:=htm 2 _ xj (by try simp only[go_sem,seval,q2];rfl)
  have t4:=htm 4 _ xj (by try simp only[go_sem,seval,q4];rfl)
  have hqa:(q++[a]).all (YN D.hasT)=YN D.hasT a:=by rw[mQ,hJ.1];simp
  have hty:∀ S',JS D vars e env S'->Zh nC 279 [.val (.pointer (some ⟨D.jb,0,none⟩)),.agg a.emb] S' (ZP (vb (YN D.hasT a)) S'):=fun S' hJ=>by
   obtain⟨v0,va0,gj,hV,hva⟩:=hJ.gj
   have htc:=QP D.jb D.r0 _ _ _ _ D.mt hJ.lt.1 S' gj hJ.g0 a
   rwa [hfe] at htc
  generalize YN D.hasT a=qt at hty hqa
  obtain⟨xa,xl⟩:=a
  simp only[tyA,cQ] at hty ⊢
  refine uJ ?_
  try simp only[go_sem,seval,Xm,t2,t4]
  intro b6 hb6
  try simp only[go_sem,seval,Xm,t2,t4]
  obtain⟨i1,i2,i3,i4,i5,i6⟩:=hJ
  have kl:=Xc.cons hb6 (.cells [vs xa,.list .none 2 (cI xl)])
  refine⟨fun k x hx _=>by rw[Zg hb6 (by rw[hx];rfl)];exact hx,⟨i1,kl _ _ i2 xZ,kl _ _ i3 xZ,kl _ _ i4 xZ,i5.cons hb6 _,i6.cons _⟩,fun S2 hJ2 hkl=>?_⟩
  have g6:=hkl _ _ (Ze b6 _ _) xZ
  obtain⟨i1,i2,i3,i4,i5,i6⟩:=hJ2
  refine uJ ?_
  try simp only[go_sem,seval,Xm,t2,t4,g6,i3]
  refine(hty _ i5).only' ?_
  cases qt with
  | false =>
    try simp only[go_sem,seval,Xm,t2,t4,i2,jX]
    exact⟨⟨hqa,by rw[V1 i2];exact i6⟩,.set xf _⟩
  | true =>
    try simp only[go_sem,seval,Xm,t2,t4]
    exact⟨⟨hqa,i2,i3,i4,i5,i6⟩,.refl _ _⟩
 ·rintro Dm S' hfD hgD ⟨hall,i2,i3,i4,i5,i6⟩
  rw[hall]
  have hD:=Wc.cons (ds:=[]) (S:=S') trivial (H7.fresh hfD) hgD xf
  have lp2:=hp.pmodes
  have lp1:=hp.ptypes
  simp only[Ww,ZW]
  refine uC ?_
  try simp only[go_sem,seval,q3]
  refine Zp (mu:=[]) (dr:=[]) [8,35,36,37,38,39,40,41,42,43,44,45,46,47,48,49,50,51,52,53,54,55,56,57,58,59,60,61,62,63,64,65] (fun x:Nat×Store=>[(35,vi x.1)]) (fun x=>x.2)
   (fun x=>x.1<=ds.length/\x.2.get b4=some (.cells [vb false])/\Has S x.2/\Wc S [WS Dm] x.2/\ds.all Wh=(ds.drop x.1).all Wh) (fun x=>ds.length-x.1) (0,S') xy ⟨by simp,i2,i6,hD,by simp⟩ ⟨.refl _,trivial⟩ (.refl _) ?_
  rintro⟨i,Si⟩ ⟨hi,c2,c6,cD,hx⟩
  dsimp only at hi c2 c6 cD hx
  have hl2':ds.length<=1000000:=hl2
  by_cases hi2:(i:Int)<(ds.length:Int)
  ·have x1:=iS hi2
   refine uB fun x0=>?_
   obtain⟨a,ha⟩:∃ a,ds[i]?=some a:=⟨ds[i]' xh,iO xh⟩
   have g:(df ds)[i]?=some a.emb:=by rw[df,jp,ha];rfl
   refine uz fun w3=>?_
   have lm:=lp2 a (iG ha)
   have lt:=lp1 a (iG ha)
   rw[drop_at ha,kY] at hx
   obtain⟨an,at_,ak,am⟩:=a
   simp only[Pd.emb] at g
   have hpo:Wh ⟨an,at_,ak,am⟩=(decide (1<=ak)&&decide (ak<=3)&&(decide (am.length=0) || decide (am.length=at_.length))&&!(am.any fun m=>decide (m<0) || decide (2<m))):=rfl
   have hany:=fun σ=>aH σ am .none 1 (.inl rfl) (.func (.func 280) #[] #[]) (fun m=>decide (m<0) || decide (2<m)) (fun d _=>by rw[Z4];exact Lm d σ)
   generalize(am.any fun m=>decide (m<0) || decide (2<m))=qa at hany hpo
   have li:∀ l:List Int,(Zu l).length=l.length:=fun l=>by simp[Zu]
   try simp only[go_sem,seval,dC,x0,x1,g,iT,iF,jq,jr,jt]
   intro b8 hb8
   have n84:b8≠b4:=ZI hb8 c2
   have n48:=iC n84
   have D8:=(cD.keep (.cons hb8 (.cells [vs an,.list .none 2 (cI at_),vi ak,.list .none 1 (Zu am)])))
   have H8:=c6.cons (b8,AObj.cells [vs an,.list .none 2 (cI at_),vi ak,.list .none 1 (Zu am)])
   have G8:Store.get ((b8,AObj.cells [vs an,.list .none 2 (cI at_),vi ak,.list .none 1 (Zu am)])::Si) b4=some (.cells [vb false]):=by rw[Zc n84];exact c2
   by_cases k1:ak<1
   ·have y1:=iS k1
    have hf:Wh ⟨an,at_,ak,am⟩=false:=by rw[hpo,jY (by omega:¬ 1<=ak)];rfl
    try simp only[go_sem,seval,y1,q4,n84,n48,c2,iT,jX]
    exact ox
   ·have y1:=iU k1
    by_cases k3:ak > 3
    ·have y2:=iS k3
     have hf:Wh ⟨an,at_,ak,am⟩=false:=by rw[hpo,jY (by omega:¬ ak<=3)];simp
     try simp only[go_sem,seval,y1,y2,q4,n84,n48,c2,iT,iV,jX]
     exact ox
    ·have y2:=iU k3
     have hpo2:Wh ⟨an,at_,ak,am⟩=((decide (am.length=0) || decide (am.length=at_.length))&&!qa):=by rw[hpo,jy (by omega:1<=ak),jy (by omega:ak<=3)];rfl
     by_cases m0:am.length=0
     ·have y3:((am.length:Int)=0)=True:=iS xh
      rw[jy m0,ky,jz] at hpo2
      try simp only[go_sem,seval,y1,y2,y3,li,q4,n84,n48,c2,iT,iV,jX]
      exact tW
     ·have y3:((am.length:Int)=0)=False:=iU xh
      by_cases m1:am.length=at_.length
      ·have y4:((am.length:Int)=(at_.length:Int))=True:=iS xh
       rw[jy m1,kz,jz] at hpo2
       try simp only[go_sem,seval,y1,y2,y3,y4,li,cG,q4,n84,n48,c2,iT,iV,jX]
       exact tW
      ·have y4:((am.length:Int)=(at_.length:Int))=False:=iU xh
       have hf:Wh ⟨an,at_,ak,am⟩=false:=by rw[hpo2,jY m0,jY m1];rfl
       try simp only[go_sem,seval,y1,y2,y3,y4,li,cG,q4,n84,n48,c2,iT,iV,jX]
       exact ox
  ·have x1:=iU hi2
   rw[jD xh,kZ] at hx
   rw[hx]
   try simp only[go_sem,seval,dC,x1,iV,q4,c2,jX]
   show YY _ _ _ _ _ _
   have hDD:=cD.setc c2 (.cells [vb true])
   have hGG:=Zd c2 (y:=.cells [vb true])
   have hHH:=c6.set f4 (.cells [vb true])
   refine YT (fun S'=>S'.get b4=some (.cells [vb _])/\Has S S') (fun S' D x h hf hg=>⟨by rw[Za (fun e=>by rw[<- e,h.1] at hg;cases hg)];exact h.1,h.2.set hf _⟩) (fun S' h=>?_) _ _ hDD ⟨hGG,hHH⟩
   exact oX
 ·rintro Dm S' c q s hfD hgD hL ⟨rfl,hq,i2,i6⟩
  have hv:(VQ p0).all (YN D.hasT)=false:=by rw[hL,mQ,hq];rfl
  rw[hv]
  have hD:=Wc.cons (ds:=[]) (S:=S') trivial (H7.fresh hfD) hgD xf
  show YY _ _ _ _ _ _
  refine YT (fun S'=>S'.get b4=some (.cells [vb _])/\Has S S') (fun S' D x h hf hg=>⟨by rw[Za (fun e=>by rw[<- e,h.1] at hg;cases hg)];exact h.1,h.2.set hf _⟩) (fun S' h=>?_) _ _ hD ⟨i2,i6⟩
  exact oX
open Go.Proofs Go.RowKit
theorem Fw(c:Nt):Pur nC 288 [.agg c.emb] (vs c.name):=by
 intro σ
 obtain⟨s,⟨ts,tl⟩⟩:=c
 simp only[eb]
 refine Zb [] [] Tryz.func288 rfl xy ?_;rw[Tryz.ntmps288,Tryz.results288]
 exact oG
theorem JS.setv{D:Jd}{vars vars':List Nt}{e:nM Nat}{env:List Plc}{S:Store}(h:JS D vars e env S){v va va':AV}(g:S.get D.jb=some (.cells [.val (.map (some D.r0)),.val (.map (some D.r1)),.val (.map (some D.r2)),va,v]))(hva:(va'=.list .none 3 (cZ vars'))\/(va'=.list .full 0 []/\vars'=[])) :
 JS D vars' e env (S.set D.jb (.cells [.val (.map (some D.r0)),.val (.map (some D.r1)),.val (.map (some D.r2)),va',v]))/\Stp D.jb e e S (S.set D.jb (.cells [.val (.map (some D.r0)),.val (.map (some D.r1)),.val (.map (some D.r2)),va',v])):=by
 obtain⟨v0,va0,g',hv,_⟩:=h.gj
 rw[g] at g'
 simp only[jq,AObj.cells.injEq,lR,jt,and_true] at g'
 obtain⟨rfl,rfl⟩:=g'
 refine xc fun kp=>?_
 have nm:∀ (r:Nat) (m:List (nG×AV×Nat)) (c:Nat),S.get r=some (.map m c)->r≠D.jb:=fun r m c hr q=>by rw[q,g] at hr;cases hr
 refine⟨⟨⟨v,va',Zd g,?_,hva⟩,kp _ _ _ h.g0 (nm _ _ _ h.g0),kp _ _ _ h.g1 (nm _ _ _ h.g1),kp _ _ _ h.g2 (nm _ _ _ h.g2),h.lt,h.lc,h.lp,h.nej,h.fj,h.fe,h.has.set h.fj _⟩,fun k x hx h1 _=>kp _ _ _ hx h1,.inl rfl,fun k hk=>?_⟩
 ·rcases hv with q|⟨b,cap,rest,q1,q2,q3,q4⟩
  ·exact .inl q
  ·exact .inr ⟨b,cap,rest,q1,q2,kp _ _ _ q3 (fun q=>h.nej (by rw[q1,q])),q4⟩
 ·by_cases q:k=D.jb
  ·rw[q,Zd g];rfl
  ·rw[Za q];exact hk
theorem Fu(D:Jd)(vars:List Nt)(e:nM Nat)(env:List Plc)(S:Store)(b2:Nat)(u:FrameMode)(K:Store->Prop)(h:JS D vars e env S)(g2:S.get b2=some (.cells [.val (.pointer (some ⟨D.jb,0,none⟩))]))
 (hK:∀ S',JS D [] e env S'->Stp D.jb e e S S'->K S'):Vl nC 289 [.pointer (some ⟨b2,0,none⟩)] u u S K:=by
 obtain⟨v,va,g,hv,hva⟩:=h.gj
 obtain⟨q1,q2⟩:=h.setv (vars':=[]) g (va':=.list .full 0 []) (.inr ⟨rfl,rfl⟩)
 refine LN Tryz.func289 rfl rfl xy ?_
 rw[Tryz.ntmps289]
 refine uJ ?_
 try simp only[go_sem,seval,g2,g,jX]
 exact⟨_,.refl _,hK _ q1 q2⟩
def qyS(hasT:Str->Bool)(cT:Str->nM Ty)(pP:Str->nM Pd)(q:Qy):Bool:=Xw (ZC 2) (q.vars.map Nt.name) []&&q.vars.all (fun v=>YN hasT v.ty&&VA v.ty)&&fmS hasT cT pP q.vars false [] q.form
theorem Cl(D:Jd)(hP:∀ s d,D.pP s=some d->∀ u∈d.types,u.shape.dpN<=1000)(hC:∀ s t,D.cT s=some t->t.shape.dpN<=1000)(q:Qy)(hv:q.vars.length<1000000)(hvt:∀ x∈q.vars,x.ty.shape.dpN<=1000)(hF:FT q.form)(hd:q.form.shape.dpN<1000000)(e:nM Nat)(S:Store)(h:JS D [] e [] S) :
 Zh nC 252 [.val (.pointer (some ⟨D.jb,0,none⟩)),.agg q.emb] S (JQ D [] e [] S (qyS D.hasT D.cT D.pP q)):=by
 refine XF Tryz.func252 rfl xy ?_
 rw[Tryz.ntmps252,Tryz.results252]
 obtain⟨qs,qv,qf⟩:=q
 have hfc:=fun S' e' (hJ:JS D qv e' [] S')=>EI D qv hv hP qf false e' [] S' hJ ⟨hC,hvt,by simp⟩ hF (by simpa using hd)
 have hq:qyS D.hasT D.cT D.pP ⟨qs,qv,qf⟩=(Xw (ZC 2) (qv.map Nt.name) []&&qv.all (fun v=>YN D.hasT v.ty&&VA v.ty)&&fmS D.hasT D.cT D.pP qv false [] qf):=rfl
 rw[hq]
 generalize fmS D.hasT D.cT D.pP qv false [] qf=vf at hfc ⊢
 obtain⟨fk,fs,fa,⟨fts,ftl⟩,fl⟩:=qf
 simp only[dX,cM] at hfc ⊢
 refine vu ?_
 refine uw ?_
 intro b2 hb2
 simp only[ZW]
 have J2:=h.cons hb2 (.cells [.val (.pointer (some ⟨D.jb,0,none⟩))])
 have s2:=Stp.cons (jb:=D.jb) (e:=e) hb2 (.cells [.val (.pointer (some ⟨D.jb,0,none⟩))])
 have g2:=Ze b2 (AObj.cells [AV.val (Value.pointer (some { block:=D.jb,off:=0 }))]) S
 obtain⟨a2,c2⟩:=h.ne hb2
 generalize((b2,AObj.cells [AV.val (Value.pointer (some { block:=D.jb,off:=0 }))])::S:List (Nat×AObj))=S2 at J2 s2 g2 ⊢
 refine uA ?_
 refine uw ?_
 refine(CG qv _ Nt.name (by simpa using Nat.le_of_lt hv) (fun a _=>Fw a) S2).nd.mono ?_
 rintro r S3 ⟨⟨v,rfl,hv3,hh⟩,hn⟩
 have hse:=hh.sees hn
 replace J2:=J2.sees hse hh
 replace s2:=s2.trans (.sees hse)
 replace g2:=hse _ _ g2
 obtain⟨rt,sz,rfl,hz,-⟩:=hv3
 have hd1:=Vf 218 (ZC 2) (fun s=>KU s) (qv.map Nt.name) rt sz (hz.imp id (fun h=>by simpa[ZX] using h)) (by have:qv.length<1000000:=hv;rw[io];omega)
 clear hse hh hn hb2
 generalize Xw (ZC 2) (qv.map Nt.name) []=v1 at hd1 ⊢
 refine uw ?_
 refine hd1.use ?_
 cases v1 with
 | false =>
   refine uw ?_
   show Xf _ _ _ _ _
   refine uw ?_
   exact .mk (.refl _) (.refl _) ⟨by simp,e,J2,s2⟩
 | true =>
 refine uw ?_
 simp only[ZW,jz]
 have hfe:(fun s=>(Z3 D.mt s).isSome)=D.hasT:=funext J2.lt.2
 obtain⟨vv,va,gj,hV,hva⟩:=J2.gj
 have hv':qv.length<1000000:=hv
 have hvt':∀ x∈qv,x.ty.shape.dpN<=1000:=hvt
 refine uA ?_
 refine uw ?_
 refine Zp (mu:=[]) (dr:=[]) [4,6,15,16,17,18,19,20,21,22,23,24,25,26,27,28,29,30] (fun x:Nat=>[(15,vi x)]) (fun _=>S3)
  (fun x=>x<=qv.length/\qv.all (fun v=>YN D.hasT v.ty&&VA v.ty)=(qv.drop x).all (fun v=>YN D.hasT v.ty&&VA v.ty)) (fun x=>qv.length-x) 0 xy ⟨by simp,by simp⟩ ⟨.refl _,trivial⟩ (.refl _) ?_
 rintro i ⟨hi,hx⟩
 by_cases hi2:(i:Int)<(qv.length:Int)
 ·have x1:=iS hi2
  refine uB fun x0=>?_
  obtain⟨a,ha⟩:∃ a,qv[i]?=some a:=⟨qv[i]' xh,iO xh⟩
  have ga:(cZ qv)[i]?=some a.emb:=by rw[cZ,jp,ha];rfl
  refine uz fun w3=>?_
  rw[drop_at ha,kY] at hx
  obtain⟨hs1,-⟩:=O4 a.ty
  have hvc:=So a.ty (by have:=hvt' a (iG ha);omega)
  have htc:=fun S' (g:Store.get S' D.jb=some (.cells [.val (.map (some D.r0)),.val (.map (some D.r1)),.val (.map (some D.r2)),va,vv])) (g0:Store.get S' D.r0=some (.map (ZS keS (Xn D.mt)) D.mt.length))=>QP D.jb D.r0 _ _ _ _ D.mt J2.lt.1 S' g g0 a.ty
  rw[hfe] at htc
  generalize YN D.hasT a.ty=qt at htc hx
  generalize VA a.ty=qw at hvc hx
  obtain⟨an,⟨at_,al⟩⟩:=a
  simp only[eb,cQ] at ga htc hvc
  try simp only[go_sem,seval,dw,x0,x1,ga,iT,iF,jq,jr,jt]
  intro b6 hb6
  have n62:b6≠b2:=ZI hb6 g2
  have n6j:b6≠D.jb:=ZI hb6 gj
  have n60:b6≠D.r0:=ZI hb6 J2.g0
  try simp only[go_sem,seval,g2,n62,iC n62]
  refine(htc _ (by rw[Zc n6j];exact gj) (by rw[Zc n60];exact J2.g0)).only' ?_
  cases qt with
  | false =>
    rw[jS,jS] at hx
    exact rI
  | true =>
  rw[jz] at hx
  refine uw ?_
  refine hvc.use ?_
  cases qw with
  | false =>
    rw[jS] at hx
    exact rI
  | true =>
  rw[jz] at hx
  refine vF ?_
  exact .mk (i+1) ⟨by omega,hx⟩ xh ⟨.refl _,trivial⟩ yS (.cons _ _)
 ·have x1:=iU hi2
  rw[jD xh,kZ] at hx
  rw[hx]
  obtain⟨Jv,sv⟩:=J2.setv (vars':=qv) gj (va':=.list .none 3 (cZ qv)) (.inl rfl)
  try simp only[go_sem,seval,dw,x1,iV]
  simp only[ZW,jz]
  refine uA ?_
  try simp only[go_sem,seval,g2,gj,jX]
  simp only[ZW]
  have sq:=s2.trans sv
  replace g2:=sv.keep _ _ g2 a2 c2
  generalize Store.set S3 D.jb _=S4 at Jv sv sq g2 ⊢
  refine .seq (.region (mu:=[]) (pre:=[_]) 36 xy xy xj ?_)
  refine uw ?_
  refine wy ?_
  simp only[ZW]
  refine uC ?_
  try simp only[go_sem,seval,g2]
  refine(hfc S4 e Jv).mono ?_
  rintro r S5 ⟨rfl,e',hJ',hS'⟩
  refine uw ?_
  simp only[WY]
  refine wy ?_
  refine Fu D qv e' [] S5 b2 _ _ hJ' (hS'.keep _ _ g2 a2 c2) (fun S6 hJ6 hS6=>?_)
  refine uw ?_
  exact .mk (.refl _) (.refl _) ⟨rfl,e',hJ6,(sq.trans hS').trans hS6⟩
open Go.Proofs Go.RowKit
def QV(p:Pg)(s:Str):Bool:=decide (s∈p.types)
def cTS(p:Pg)(s:Str):nM Ty:=(p.consts.reverse.find? fun c=>decide (c.name=s)).map Nt.ty
def pPS(p:Pg)(s:Str):nM Pd:=p.preds.reverse.find? fun d=>decide (d.name=s)
theorem OH{α:Type}(l:List α)(a:α)(q:α->Bool):(l++[a]).reverse.find? q=if q a then some a else l.reverse.find? q:=by
 rw[List.reverse_append];simp only[List.reverse_cons,List.reverse_nil,kF,lI,mV]
 cases q a<;>rfl
theorem SM{α:Type}{l:List α}{i:Nat}{a:α}(h:l[i]?=some a):l.take (i+1)=l.take i++[a]:=by rw[jh,h,jj]
structure JM (σ:Store) (jb r0 r1 r2:Nat) (m0 m1 m2:List (Str×AV)) (S:Store):Prop where
 gj:S.get jb=some (.cells [.val (.map (some r0)),.val (.map (some r1)),.val (.map (some r2)),.list .full 0 [],.list .full 0 []])
 g0:S.get r0=some (.map (ZS keS (Xn m0)) m0.length)
 g1:S.get r1=some (.map (ZS keS (Xn m1)) m1.length)
 g2:S.get r2=some (.map (ZS keS (Xn m2)) m2.length)
 has:Has σ S
theorem JM.cons{σ:Store}{jb r0 r1 r2:Nat}{m0 m1 m2:List (Str×AV)}{S:Store}(h:JM σ jb r0 r1 r2 m0 m1 m2 S){k:Nat}(hk:Zm S k)(x:AObj):JM σ jb r0 r1 r2 m0 m1 m2 ((k,x)::S):=by
 have kp:∀ (c:Nat) (y:AObj),S.get c=some y->Store.get ((k,x)::S) c=some y:=fun c y hy=>by rw[Zg hk xE];exact hy
 exact⟨kp _ _ h.gj,kp _ _ h.g0,kp _ _ h.g1,kp _ _ h.g2,h.has.cons _⟩
theorem HK(p:Pg)(hp:OT p)(σ:Store)(R:ZE->Store->Prop)(h:∀ D S,D.σ0=σ->D.hasT=QV p->D.cT=cTS p->D.pP=pPS p->JS D [] none [] S->R (.ret (.val (.pointer (some ⟨D.jb,0,none⟩)))) S) :
 Zh nC 243 [.agg p.emb] σ R:=by
 have l1:=hp.types
 have l2:=hp.consts
 have l3:=hp.preds
 clear hp
 obtain⟨ts,cs,ds,rs,qs⟩:=p
 simp only[dW] at *
 refine Zb [14] [(10,8,0),(15,7,0)] Tryz.func243 rfl xy ?_;rw[Tryz.ntmps243,Tryz.results243]
 refine uw ?_
 intro r0 hr0 r1 hr1 r2 hr2
 refine uw ?_
 intro jb hjb
 have f0:Zm σ r0:=hr0
 have f1:Zm σ r1:=hr1.2
 have f2:Zm σ r2:=hr2.2.2
 have fj:Zm σ jb:=hjb.2.2.2
 have n10:=iC hr1.1
 have n20:=iC hr2.2.1
 have n21:=iC hr2.1
 have nj2:=iC hjb.1
 have nj1:=iC hjb.2.1
 have nj0:=iC hjb.2.2.1
 have hM:JM σ jb r0 r1 r2 [] [] [] ((jb,.cells [.val (.map (some r0)),.val (.map (some r1)),.val (.map (some r2)),.list .full 0 [],.list .full 0 []])::(r2,AObj.map [] 0)::(r1,AObj.map [] 0)::(r0,AObj.map [] 0)::σ) :=
  ⟨Ze _ _ _,by rw[Zc nj0,Zc n20,Zc n10,Ze];rfl,by rw[Zc nj1,Zc n21,Ze];rfl,by rw[Zc nj2,Ze];rfl,((((Has.refl σ).cons _).cons _).cons _).cons _⟩
 have tm0:=cr
 have tm1:=bT
 have tm2:=bR
 have tst:=AW
 refine Zp (mu:=[]) (dr:=[]) [5,18,19,20,21,22,23,24,25,26,27] (fun x:Nat×List (Str×AV)×Store=>[(18,vi x.1)]) (fun x=>x.2.2)
  (fun x=>x.1<=ts.length/\JM σ jb r0 r1 r2 x.2.1 [] [] x.2.2/\N9 x.2.1/\∀ s,(Z3 x.2.1 s).isSome=decide (s∈ts.take x.1)) (fun x=>ts.length-x.1) (0,[],_) xy ⟨by simp,hM,by intro e he;simp at he,by intro s;simp[Z3]⟩ ⟨.refl _,trivial⟩ (.refl _) ?_
 rintro⟨i,m,S⟩ ⟨hi,iM,iA,iL⟩
 dsimp only at hi iM iA iL
 have lst:(ZX ts).length=ts.length:=by simp[ZX]
 by_cases hi2:(i:Int)<(ts.length:Int)
 ·have x1:=iS hi2
  refine uB fun x0=>?_
  obtain⟨a,ha⟩:∃ a,ts[i]?=some a:=⟨ts[i]' xh,iO xh⟩
  have ga:(ZX ts)[i]?=some [vs a]:=by rw[ZX,jp,ha];rfl
  refine uz fun w3=>?_
  try simp only[go_sem,seval,lst,x0,x1,ga,iM.gj,iT,iF,jq,jr,jt]
  refine Vv (l:=Xn m) (c:=m.length) tm0 tst iM.g0 ?_
  obtain⟨u1,u2⟩:=VK m a (vb true)
  rw[u1,u2]
  refine vF ?_
  refine .mk (i+1,putA m a (vb true),_) ⟨by dsimp only;omega,⟨by dsimp only;rw[Za (fun q=>by have:=iM.g0;rw[<- q,iM.gj] at this;cases this)];exact iM.gj,Zd iM.g0,by dsimp only;rw[Za n10];exact iM.g1,by dsimp only;rw[Za n20];exact iM.g2,iM.has.set f0 _⟩,iA.put a,fun s=>?_⟩ xX ⟨.refl _,trivial⟩ yS (.refl _)
  dsimp only
  rw[U8,SM ha]
  by_cases hs:s=a
  ·rw[gZ hs];simp[hs]
  ·rw[ig hs,iL s];simp[hs]
 have x1:=iU hi2
 rw[iW xh] at iL
 try simp only[go_sem,seval,lst,x1,iV]
 clear x1 hi2 hi hM
 refine Zp (mu:=[]) (dr:=[(10,8,0),(15,7,0)]) [7,31,32,33,34,35,36,37,38,39,40,41,42,43] (fun x:Nat×List (Str×AV)×Store=>[(31,vi x.1)]) (fun x=>x.2.2)
  (fun x=>x.1<=cs.length/\JM σ jb r0 r1 r2 m x.2.1 [] x.2.2/\∀ s,Z3 x.2.1 s=((cs.take x.1).reverse.find? fun c=>decide (c.name=s)).map fun c=>.agg c.ty.emb) (fun x=>cs.length-x.1) (0,[],S) xy ⟨by simp,iM,by intro s;simp[Z3]⟩ ⟨.refl _,trivial⟩ (.refl _) ?_
 rintro⟨i1,m1,S1⟩ ⟨hi,jM,jL⟩
 dsimp only at hi jM jL
 by_cases hi2:(i1:Int)<(cs.length:Int)
 ·have x1:=iS hi2
  have x0:(0<=(i1:Int))=True:=iS xh
  obtain⟨a,ha⟩:∃ a,cs[i1]?=some a:=⟨cs[i1]' xh,iO xh⟩
  have ga:(cZ cs)[i1]?=some a.emb:=by rw[cZ,jp,ha];rfl
  have w3:IntKind.i64.wrap ((i1:Int)+1)=((i1+1:Nat):Int):=Zk xh xh
  have hsn:∀ s,((cs.take (i1+1)).reverse.find? fun c=>decide (c.name=s))=if decide (a.name=s) then some a else(cs.take i1).reverse.find? fun c=>decide (c.name=s):=fun s=>by rw[SM ha,OH]
  obtain⟨an,⟨at_,al⟩⟩:=a
  simp only[eb] at ga
  try simp only[go_sem,seval,dw,x0,x1,ga,iT,iF,jq,jr,jt]
  intro b7 hb7
  have kM:=jM.cons hb7 (.cells [vs an,vs at_,.list .none 2 (cI al)])
  have n7j:b7≠jb:=ZI hb7 jM.gj
  try simp only[go_sem,seval,n7j,iC n7j,jM.gj]
  refine Vv (l:=Xn m1) (c:=m1.length) tm1 tst kM.g1 ?_
  obtain⟨u1,u2⟩:=VK m1 an (.agg [vs at_,.list .none 2 (cI al)])
  rw[u1,u2]
  generalize((b7,AObj.cells [vs an,vs at_,.list .none 2 (cI al)])::S1:List (Nat×AObj))=S2 at kM ⊢
  refine vF ?_
  refine .mk (i1+1,putA m1 an (.agg [vs at_,.list .none 2 (cI al)]),_) ⟨by dsimp only;omega,⟨by dsimp only;rw[Za (fun q=>by have:=kM.g1;rw[<- q,kM.gj] at this;cases this)];exact kM.gj,by dsimp only;rw[Za (Ne.symm n10)];exact kM.g0,Zd kM.g1,by dsimp only;rw[Za n21];exact kM.g2,kM.has.set f1 _⟩,fun s=>?_⟩ xX ⟨.refl _,trivial⟩ yS (.refl _)
  dsimp only
  rw[U8,hsn]
  by_cases hs:s=an
  ·subst hs;simp[cQ]
  ·have hs2:¬ an=s:=fun q=>hs q.symm
   rw[ig hs,jL s];simp[hs2]
 have x1:=iU hi2
 rw[iW xh] at jL
 try simp only[go_sem,seval,dw,x1,iV]
 clear x1 hi2 hi iM
 refine Zp (mu:=[]) (dr:=[(10,8,0),(15,7,0)]) [9,47,48,49,50,51,52,53,54,55,56,57,58] (fun x:Nat×List (Str×AV)×Store=>[(47,vi x.1)]) (fun x=>x.2.2)
  (fun x=>x.1<=ds.length/\JM σ jb r0 r1 r2 m m1 x.2.1 x.2.2/\∀ s,Z3 x.2.1 s=((ds.take x.1).reverse.find? fun c=>decide (c.name=s)).map fun c=>.agg c.emb) (fun x=>ds.length-x.1) (0,[],S1) xy ⟨by simp,jM,by intro s;simp[Z3]⟩ ⟨.refl _,trivial⟩ (.refl _) ?_
 rintro⟨i2,m2,S2⟩ ⟨hi,kM,kL⟩
 dsimp only at hi kM kL
 by_cases hi2:(i2:Int)<(ds.length:Int)
 ·have x1:=iS hi2
  have x0:(0<=(i2:Int))=True:=iS xh
  obtain⟨a,ha⟩:∃ a,ds[i2]?=some a:=⟨ds[i2]' xh,iO xh⟩
  have ga:(df ds)[i2]?=some a.emb:=by rw[df,jp,ha];rfl
  have w3:IntKind.i64.wrap ((i2:Int)+1)=((i2+1:Nat):Int):=Zk xh xh
  have hsn:∀ s,((ds.take (i2+1)).reverse.find? fun c=>decide (c.name=s))=if decide (a.name=s) then some a else(ds.take i2).reverse.find? fun c=>decide (c.name=s):=fun s=>by rw[SM ha,OH]
  obtain⟨an,at_,ak,am⟩:=a
  simp only[Pd.emb] at ga
  try simp only[go_sem,seval,dC,x0,x1,ga,iT,iF,jq,jr,jt]
  intro b7 hb7
  have lM:=kM.cons hb7 (.cells [vs an,.list .none 2 (cI at_),vi ak,.list .none 1 (Zu am)])
  have n7j:b7≠jb:=ZI hb7 kM.gj
  try simp only[go_sem,seval,n7j,iC n7j,kM.gj]
  refine Vv (l:=Xn m2) (c:=m2.length) tm2 tst lM.g2 ?_
  obtain⟨u1,u2⟩:=VK m2 an (.agg [vs an,.list .none 2 (cI at_),vi ak,.list .none 1 (Zu am)])
  rw[u1,u2]
  generalize((b7,AObj.cells [vs an,.list .none 2 (cI at_),vi ak,.list .none 1 (Zu am)])::S2:List (Nat×AObj))=S3 at lM ⊢
  refine vF ?_
  refine .mk (i2+1,putA m2 an (.agg [vs an,.list .none 2 (cI at_),vi ak,.list .none 1 (Zu am)]),_) ⟨by dsimp only;omega,⟨by dsimp only;rw[Za (fun q=>by have:=lM.g2;rw[<- q,lM.gj] at this;cases this)];exact lM.gj,by dsimp only;rw[Za (Ne.symm n20)];exact lM.g0,by dsimp only;rw[Za (Ne.symm n21)];exact lM.g1,Zd lM.g2,lM.has.set f2 _⟩,fun s=>?_⟩ xX ⟨.refl _,trivial⟩ yS (.refl _)
  dsimp only
  rw[U8,hsn]
  by_cases hs:s=an
  ·subst hs;simp[Pd.emb]
  ·have hs2:¬ an=s:=fun q=>hs q.symm
   rw[ig hs,kL s];simp[hs2]
 have x1:=iU hi2
 rw[iW xh] at kL
 try simp only[go_sem,seval,dC,x1,iV]
 refine .mk (.refl _) (.refl _) (h ⟨σ,jb,r0,r1,r2,m,m1,m2,QV ⟨ts,cs,ds,rs,qs⟩,cTS ⟨ts,cs,ds,rs,qs⟩,pPS ⟨ts,cs,ds,rs,qs⟩⟩ S2 rfl rfl rfl rfl ?_)
 exact⟨⟨_,_,kM.gj,.inl ⟨rfl,rfl,rfl⟩,.inr ⟨rfl,rfl⟩⟩,kM.g0,kM.g1,kM.g2,⟨iA,iL⟩,fun s=>by rw[jL s];unfold cTS;rw[Option.map_map];rfl,kL,by simp,fj,by simp,kM.has⟩
open Go.Proofs Go.RowKit
theorem Gz(f:nG)(l:List Qy)(rt:Rt)(sz:Nat)(hs:sz=8\/l=[])(q:Qy->Bool)(I:Store->Prop)(hf:∀ a∈l,∀ S,I S->ZH nC (.val f) [.agg a.emb] S (fun r S'=>r=.ret (vb (q a))/\I S'))(S:Store)(h0:I S) :
 Zh nC 234 [.list rt sz (dy l),.val f] S (fun r S'=>r=.ret (vb (l.any q))/\I S'):=by
 have hix:Zh nC 268 [.list rt sz (dy l),.val f] S (fun r S'=>((∃ n:Int,0<=n/\r=.ret (vi n)/\l.any q=true)\/(r=.ret (vi (-1))/\l.any q=false))/\I S'):=by
  refine Zh.ok xy (fun hok=>?_)
  have hl:=(hok _ ir).len
  rw[dA] at hl
  clear hok
  refine Zb [] [] Tryz.func268 rfl xy ?_;rw[Tryz.ntmps268,Tryz.results268]
  refine uw ?_
  refine Zp (mu:=[]) (dr:=[]) [4,5,8,9,10,11,12,13,14,15,16,17,18] (fun x:Nat×Store=>[(8,vi x.1)]) (fun x=>x.2) (fun x=>x.1<=l.length/\I x.2/\l.any q=(l.drop x.1).any q) (fun x=>l.length-x.1) (0,S) xy ⟨by simp,h0,by simp⟩ ⟨.refl _,trivial⟩ (.refl _) ?_
  rintro⟨i,Si⟩ ⟨hi,iI,hx⟩
  dsimp only at hi iI hx
  by_cases hi2:(i:Int)<(l.length:Int)
  ·have x1:=iS hi2
   refine uB fun x0=>?_
   refine uG fun a ha=>?_
   have ga:(dy l)[i]?=some a.emb:=by rw[dy,jp,ha];rfl
   refine uz fun w3=>?_
   have hsz:sz=8:=hs.resolve_right (fun e=>by rw[e] at hi2;simp at hi2;omega)
   subst hsz
   have hfa:=hf a (iG ha) Si iI
   rw[drop_at ha,mX] at hx
   generalize q a=qa at hfa hx
   obtain⟨an,av,⟨ak,an2,aa,⟨ats,atl⟩,al⟩⟩:=a
   simp only[dX] at ga hfa
   try simp only[go_sem,seval,dA,x0,x1,ga,iT,iF,jq,jr,jt]
   refine hfa.mono ?_
   rintro r S' ⟨rfl,iI'⟩
   cases qa with
   | true =>
     refine uw ?_
     exact .mk (.refl _) (.refl _) ⟨.inl ⟨i,by omega,rfl,by rw[hx];rfl⟩,iI'⟩
   | false =>
     rw[ja] at hx
     refine vF ?_
     exact .mk (i+1,S') ⟨by dsimp only;omega,iI',hx⟩ xX ⟨.refl _,trivial⟩ yS (.refl _)
  ·have x1:=iU hi2
   rw[jD xh] at hx
   try simp only[go_sem,seval,dA,x1,iV]
   exact .mk (.refl _) (.refl _) ⟨.inr ⟨rfl,hx⟩,iI⟩
 refine Zb [] [] Tryz.func234 rfl xy ?_;rw[Tryz.ntmps234,Tryz.results234]
 refine uw ?_
 refine hix.mono ?_
 rintro r S' ⟨⟨n,hn,rfl,hb⟩|⟨rfl,hb⟩,hI⟩
 ·have y:(n>=0)=True:=iS hn
  rw[hb]
  refine vI ?_
  exact .mk (.refl _) (.refl _) ⟨rfl,hI⟩
 ·rw[hb]
  refine uw ?_
  exact .mk (.refl _) (.refl _) ⟨by simp,hI⟩
theorem KX(c:Rl):Pur nC 247 [.agg c.emb] (vs c.name):=by
 intro σ
 obtain⟨s,⟨k,n,a,⟨ts,tl⟩,l⟩,u⟩:=c
 simp only[dZ]
 refine Zb [] [] Tryz.func247 rfl xy ?_;rw[Tryz.ntmps247,Tryz.results247]
 exact oG
theorem KW(c:Qy):Pur nC 249 [.agg c.emb] (vs c.name):=by
 intro σ
 obtain⟨s,v,⟨k,n,a,⟨ts,tl⟩,l⟩⟩:=c
 simp only[dX]
 refine Zb [] [] Tryz.func249 rfl xy ?_;rw[Tryz.ntmps249,Tryz.results249]
 exact oG
theorem KV(b3:Nat)(jb:Nat)(q:Qy)(σ:Store)(b:Bool)(R:Store->Prop)(g:σ.get b3=some (.cells [.val (.pointer (some ⟨jb,0,none⟩))]))(hc:Zh nC 252 [.val (.pointer (some ⟨jb,0,none⟩)),.agg q.emb] σ (fun r S'=>r=.ret (vb b)/\R S')) :
 Zh nC 251 [.agg q.emb,.val (.pointer (some ⟨b3,0,none⟩))] σ (fun r S'=>r=.ret (vb (!b))/\R S'):=by
 obtain⟨s,v,⟨k,n,a,⟨ts,tl⟩,l⟩⟩:=q
 simp only[dX] at hc ⊢
 refine Zb [] [] Tryz.func251 rfl xy ?_;rw[Tryz.ntmps251,Tryz.results251]
 try simp only[go_sem,seval,g]
 refine hc.mono ?_
 rintro r S' ⟨rfl,hR⟩
 refine uw ?_
 exact .mk (.refl _) (.refl _) ⟨rfl,hR⟩
end Go.Vx
end
