/- A part of the proof of clausalSpinesProved. -/
import Derived.Test.YtllgjklcpieanaaGreatDoorR29
import Derived.Test.YtllgjklcpieanaaGreatDoorR31
set_option linter.unusedVariables false
set_option linter.unusedSimpArgs false
set_option maxRecDepth 100000
section
namespace Go.Vx
open Go.Proofs Go.RowKit
structure ce (p:Pg):Prop where
 consts:p.consts.length<=1000000
 preds:p.preds.length<=1000000
 rules:p.rules.length<=1000000
 queries:p.queries.length<=1000000
 qvars:∀ q∈p.queries,q.vars.length<1000000
 ct:∀ c∈p.consts,c.ty.shape.dpN<=1000
 pt:∀ d∈p.preds,∀ u∈d.types,u.shape.dpN<=1000
 qt:∀ q∈p.queries,∀ x∈q.vars,x.ty.shape.dpN<=1000
 rf:∀ r∈p.rules,FT r.form
 qf:∀ q∈p.queries,FT q.form
 rd:∀ r∈p.rules,r.form.shape.dpN<1000000
 qd:∀ q∈p.queries,q.form.shape.dpN<1000000
def Qr(p:Pg)(r:Rl):Bool:=decide (1<=r.use)&&decide (r.use<=3)&&fmS (QV p) (cTS p) (pPS p) [] true [] r.form
def TK(p:Pg):Bool:=Gc (QV p) p&&Xw (ZC 1) (p.rules.map Rl.name) []&&Xw (ZC 1) (p.queries.map Qy.name) []&&p.rules.all (Qr p)&&p.queries.all (qyS (QV p) (cTS p) (pPS p))
theorem HL(p:Pg)(hp:OT p)(ho:ce p):Pur nC 182 [.agg p.emb] (vb (TK p)):=by
 intro σ
 refine Zh.nodup xy (fun hnd=>?_)
 have hP:∀ s d,pPS p s=some d->∀ u∈d.types,u.shape.dpN<=1000:=fun s d h=>ho.pt d (List.mem_reverse.1 (mP h))
 have hC:∀ s t,cTS p s=some t->t.shape.dpN<=1000:=fun s t h=>by
  unfold cTS at h
  rw[kQ] at h
  obtain⟨c,hc,rfl⟩:=h
  exact ho.ct c (List.mem_reverse.1 (mP hc))
 have hjc:=HK p hp
 obtain⟨p0,hp0⟩:∃ p0,p0=p:=⟨_,rfl⟩
 have hdcl:=K9 p hp ho.consts ho.preds
 rw[<- hp0] at hP hC hjc hdcl ⊢
 obtain⟨ts,cs,ds,rs,qs⟩:=p
 refine vE fun he=>?_
 have hV:TK p0=(Gc (QV p0) p0&&Xw (ZC 1) (rs.map Rl.name) []&&Xw (ZC 1) (qs.map Qy.name) []&&rs.all (Qr p0)&&qs.all (qyS (QV p0) (cTS p0) (pPS p0))):=by unfold TK;rw[hp0]
 rw[hV]
 simp only[he] at hjc hdcl ⊢
 have hjc':=hjc σ
 refine Zb [] [] Tryz.func182 rfl xy ?_;rw[Tryz.ntmps182,Tryz.results182]
 refine uw ?_
 refine hjc' _ (fun D S hσ hT hcT hpP hJ=>?_)
 refine uw ?_
 intro b3 hb3
 rw[<- hcT] at hC
 rw[<- hpP] at hP
 rw[<- hT,<- hcT,<- hpP]
 have J3:=hJ.cons hb3 (.cells [.val (.pointer (some ⟨D.jb,0,none⟩))])
 have g3:=Ze b3 (AObj.cells [AV.val (Value.pointer (some { block:=D.jb,off:=0 }))]) S
 obtain⟨a3,c3⟩:=hJ.ne hb3
 generalize((b3,AObj.cells [AV.val (Value.pointer (some { block:=D.jb,off:=0 }))])::S:List (Nat×AObj))=S3 at J3 g3 ⊢
 clear hJ hb3 hjc hjc'
 have fin:∀ {S':Store} {e:nM Nat} {b:Bool},JS D [] e [] S'->Tw (ZP (vb b) σ) (vb b) S':=fun hJ=>.mk (.refl _) ((hσ ▸ hJ.has).sub hnd) ⟨rfl,rfl⟩
 have hdd:=hdcl D [] none [] S3 J3
 generalize Gc D.hasT p0=v1 at hdd ⊢
 try simp only[go_sem,seval,g3]
 refine hdd.only' ?_
 cases v1 with
 | false=>try simp only[go_sem,seval];exact fin J3
 | true =>
 refine uw ?_
 refine(CD rs _ Rl.name (by have:=ho.rules;exact this) (fun a _=>KX a) S3).nd.mono ?_
 rintro r S4 ⟨⟨v,rfl,hv4,hh⟩,hn⟩
 have hse:=hh.sees hn
 replace J3:=J3.sees hse hh
 replace g3:=hse _ _ g3
 obtain⟨rt,sz,rfl,hz,-⟩:=hv4
 have hd1:=Vf 108 (ZC 1) (fun s=>Ub s) (rs.map Rl.name) rt sz (hz.imp id (fun h=>by simpa[ZX] using h)) (by have:rs.length<=1000000:=ho.rules;rw[io];omega)
 clear hse hh hn hz
 generalize Xw (ZC 1) (rs.map Rl.name) []=v2 at hd1 ⊢
 refine uw ?_
 refine hd1.use ?_
 cases v2 with
 | false=>try simp only[go_sem,seval];exact fin J3
 | true =>
 refine uw ?_
 refine(CE qs _ Qy.name (by have:=ho.queries;exact this) (fun a _=>KW a) S4).nd.mono ?_
 rintro r S5 ⟨⟨v,rfl,hv4,hh⟩,hn⟩
 have hse:=hh.sees hn
 replace J3:=J3.sees hse hh
 replace g3:=hse _ _ g3
 obtain⟨rt2,sz2,rfl,hz,-⟩:=hv4
 have hd2:=Vf 108 (ZC 1) (fun s=>Ub s) (qs.map Qy.name) rt2 sz2 (hz.imp id (fun h=>by simpa[ZX] using h)) (by have:qs.length<=1000000:=ho.queries;rw[io];omega)
 clear hse hh hn hz
 generalize Xw (ZC 1) (qs.map Qy.name) []=v3 at hd2 ⊢
 refine uw ?_
 refine hd2.use ?_
 cases v3 with
 | false=>try simp only[go_sem,seval];exact fin J3
 | true =>
 refine uw ?_
 have lr:rs.length<=1000000:=ho.rules
 refine Zp (mu:=[]) (dr:=[]) [2,5,29,30,31,32,33,34,35,36,37,38,39,40,41,42,43,44,45,46,47,48] (fun x:Nat×nM Nat×Store=>[(29,vi x.1)]) (fun x=>x.2.2)
  (fun x=>x.1<=rs.length/\JS D [] x.2.1 [] x.2.2/\x.2.2.get b3=some (.cells [.val (.pointer (some ⟨D.jb,0,none⟩))])/\x.2.1≠some b3/\rs.all (Qr p0)=(rs.drop x.1).all (Qr p0)) (fun x=>rs.length-x.1) (0,none,S5) xy ⟨by simp,J3,g3,c3,by simp⟩ ⟨.refl _,trivial⟩ (.refl _) ?_
 rintro⟨i,ei,Si⟩ ⟨hi,iJ,i3,ic,hx⟩
 dsimp only at hi iJ i3 ic hx
 by_cases hi2:(i:Int)<(rs.length:Int)
 ·have x1:=iS hi2
  refine uB fun x0=>?_
  refine wU fun a ha=>?_
  have ga:(dx rs)[i]?=some a.emb:=by rw[dx,jp,ha];rfl
  refine uz fun w3=>?_
  have hm:=iG ha
  have hfc:=fun S' (hJ:JS D [] ei [] S')=>EI D [] xf hP a.form true ei [] S' hJ ⟨hC,by simp,by simp⟩ (ho.rf a hm) (by have:=ho.rd a hm;simpa using this)
  rw[drop_at ha,kY] at hx
  have hru:Qr p0 a=(decide (1<=a.use)&&decide (a.use<=3)&&fmS D.hasT D.cT D.pP [] true [] a.form):=by unfold Qr;rw[hT,hcT,hpP]
  generalize fmS D.hasT D.cT D.pP [] true [] a.form=qf at hfc hru
  obtain⟨an,⟨ak,an2,aa,⟨ats,atl⟩,al⟩,au⟩:=a
  simp only[dZ,cM] at ga hfc
  dsimp only at hru
  try simp only[go_sem,seval,du,x0,x1,ga,iT,iF,jq,jr,jt]
  intro b5 hb5
  have j5:=iJ.cons hb5 (.cells [vs an,vi ak,vs an2,.list .none 4 (cJ aa),vs ats,.list .none 2 (cI atl),.list .none 6 (cN al),vi au])
  have n53:b5≠b3:=ZI hb5 i3
  by_cases u1:au<1
  ·have y1:=iS u1
   rw[hx,hru,jY (by omega:¬ 1<=au)]
   try simp only[go_sem,seval,y1,iT]
   exact fin j5
  ·have y1:=iU u1
   by_cases u3:au > 3
   ·have y2:=iS u3
    rw[hx,hru,jY (by omega:¬ au<=3),Bool.and_false]
    try simp only[go_sem,seval,y1,y2,iT,iV]
    exact fin j5
   ·have y2:=iU u3
    rw[hru,jy (by omega:1<=au),jy (by omega:au<=3),jz,jz] at hx
    try simp only[go_sem,seval,y1,y2,i3,n53,iC n53,iV]
    refine(hfc _ j5).mono ?_
    rintro r S' ⟨rfl,e',hJ',hS'⟩
    cases qf with
    | false =>
      rw[hx]
      refine uw ?_
      exact fin hJ'
    | true =>
      rw[jz] at hx
      refine vF ?_
      have k3:=hS'.keep b3 _ (by rw[Zc n53];exact i3) a3 ic
      refine .mk (i+1,e',S') ⟨by dsimp only;omega,hJ',k3,?_,hx⟩ xX ⟨.refl _,trivial⟩ yS (.refl _)
      dsimp only
      rcases hS'.new with q|⟨b,q,hb⟩
      ·rw[q];exact ic
      ·rw[q];intro q2;injection q2 with q2;have:=YJ.1 hb;rw[q2,Zc n53,i3] at this;cases this
 ·have x1:=iU hi2
  rw[jD xh,kZ] at hx
  rw[hx]
  have hq:=fun S' h0=>Gz (.func (.func 251) #[] #[.pointer (some ⟨b3,0,none⟩)]) qs .none 8 (.inl rfl) (fun q=>!qyS D.hasT D.cT D.pP q) (fun S'=>∃ e,JS D [] e [] S'/\S'.get b3=some (.cells [.val (.pointer (some ⟨D.jb,0,none⟩))])/\e≠some b3)
   (fun a ha S' ⟨e,hJ,h3,hc⟩=>by
    rw[Z4]
    refine KV b3 D.jb a S' _ _ h3 ((Cl D hP hC a (ho.qvars a ha) (ho.qt a ha) (ho.qf a ha) (ho.qd a ha) e S' hJ).mono ?_)
    rintro r S2 ⟨rfl,e',hJ',hS'⟩
    refine⟨rfl,e',hJ',hS'.keep b3 _ h3 a3 hc,?_⟩
    rcases hS'.new with q|⟨b,q,hb⟩
    ·rw[q];exact hc
    ·rw[q];intro q2;injection q2 with q2;have:=YJ.1 hb;rw[q2,h3] at this;cases this) S' h0
  have hall:(qs.all (qyS D.hasT D.cT D.pP))=!(qs.any fun q=>!qyS D.hasT D.cT D.pP q):=by
   rw[List.not_any_eq_all_not];congr 1;funext q;simp
  rw[hall]
  generalize(qs.any fun q=>!qyS D.hasT D.cT D.pP q)=vq at hq ⊢
  try simp only[go_sem,seval,du,x1,iV]
  refine(hq Si ⟨ei,iJ,i3,ic⟩).mono ?_
  rintro r S' ⟨rfl,e',hJ',-⟩
  refine uw ?_
  exact fin hJ'
end Go.Vx
end
section
namespace Go.Vx
open Go.Proofs Go.RowKit
mutual
theorem Nf:∀ (r:Ro) (m:Int),0<=m->lvl r m<=m->(r.dpN:Int)<=m
 | .mk l,m,h0,h=>by
   simp only[lvl] at h
   have:=Nd l 0 m xh xh
   have hm:0<m:=by omega
   have:=Ij l 0 m hm xh
   simp only[Ro.dpN]
   omega
theorem Ij:∀ (l:List Ro) (n m:Int),0<m->YD l n m<=m-1->(eJ l:Int)<=m-1
 | [],n,m,h0,h=>by simp only[eJ];omega
 | a::r,n,m,h0,h=>by
   simp only[YD] at h
   rw[gZ h0] at h
   have h2:=Ij r _ m h0 h
   have h3:max n (lvl a (m-1))<=YD r (max n (lvl a (m-1))) m:=Ii r _ m
   have:=Nf a (m-1) xh xh
   simp only[eJ]
   omega
theorem Ii:∀ (l:List Ro) (n m:Int),n<=YD l n m
 | [],n,m=>by simp only[YD];omega
 | a::r,n,m=>by
   simp only[YD]
   split
   ·have:=Ii r (max n (lvl a (m-1))) m;omega
   ·omega
end
theorem A6{t:Ty}(h:dpT t=false):t.shape.dpN<=1000:=by
 unfold dpT at h
 have h2:lvl t.shape 100<=100:=by simpa using h
 have:=Nf t.shape 100 xh h2
 omega
theorem Ct{p:Pg}(h1:TF p=false)(h2:VP p=false):ce p:=by
 unfold TF at h1
 unfold VP at h2
 simp only[nw,lT,List.any_eq_false,Nat.not_lt] at h1 h2
 obtain⟨⟨⟨⟨⟨⟨⟨⟨⟨⟨a1,a2⟩,a3⟩,a4⟩,a5⟩,a6⟩,a7⟩,a8⟩,a9⟩,a10⟩,a11⟩:=h1
 obtain⟨⟨⟨b1,b2⟩,b3⟩,b4⟩:=h2
 have dp:∀ t∈VQ p++OX p,t.shape.dpN<=1000:=fun t ht=>A6 (by
  rcases List.mem_append.1 ht with h|h
  ·simpa using b1 t h
  ·simpa using b2 t h)
 refine⟨by omega,by omega,by omega,by omega,fun q hq=>?_,fun c hc=>dp _ ?_,fun d hd u hu=>dp _ ?_,fun q hq x hx=>dp _ ?_,fun r hr t ht=>dp _ ?_,fun q hq t ht=>dp _ ?_,fun r hr=>?_,fun q hq=>?_⟩
 ·have:=a7 q hq;simp only[kD,Nat.not_lt] at this;omega
 ·exact my _ (my _ (iB hc))
 ·exact my _ (mU _ (List.mem_flatMap.2 ⟨d,hd,hu⟩))
 ·exact mU _ (mU _ (List.mem_flatMap.2 ⟨q,hq,my _ (iB hx)⟩))
 ·exact mU _ (my _ (List.mem_flatMap.2 ⟨r,hr,ht⟩))
 ·exact mU _ (mU _ (List.mem_flatMap.2 ⟨q,hq,mU _ ht⟩))
 ·have:=b3 r hr;simp only[kD] at this
  have:=Nf r.form.shape 100 xh xh;omega
 ·have:=b4 q hq;simp only[kD] at this
  have:=Nf q.form.shape 100 xh xh;omega
def SB(p:Pg):Int:=if TF p then 2 else if VP p then 5 else if TK p then 0 else 31
theorem OY(p:Pg):Pur nC 114 [.agg p.emb] (vi (SB p)):=by
 intro σ
 refine Zh.ok xy (fun hok=>?_)
 have hp:=Sf (hok _ ir)
 clear hok
 have hl:=El p
 have hd:=En p
 have hv:=fun(h1:TF p=false) (h2:VP p=false)=>HL p hp (Ct h1 h2)
 have hc:SB p=if TF p then 2 else if VP p then 5 else if TK p then 0 else 31:=rfl
 rw[hc]
 generalize TF p=x1 at hl hv ⊢
 generalize VP p=x2 at hd hv ⊢
 generalize TK p=x3 at hv ⊢
 obtain⟨ts,cs,ds,rs,qs⟩:=p
 simp only[dW] at hl hd hv ⊢
 refine Zb [] [] Tryz.func114 rfl xy ?_;rw[Tryz.ntmps114,Tryz.results114]
 refine uw ?_
 refine hl.use ?_
 cases x1 with
 | true=>try simp only[go_sem,seval];exact Us rfl
 | false =>
 refine uw ?_
 refine hd.use ?_
 cases x2 with
 | true=>try simp only[go_sem,seval];exact Us rfl
 | false =>
 refine uw ?_
 refine(hv rfl rfl).use ?_
 exact sB
open Go.Proofs Go.RowKit
def Kp(O O':Nat->Prop)(S S':Store):Prop:=∀ k x,S.get k=some x->¬ O k->S'.get k=some x/\¬ O' k
theorem Kp.refl(O:Nat->Prop)(S:Store):Kp O O S S:=fun _ _ h n=>⟨h,n⟩
theorem Kp.trans{O O1 O2:Nat->Prop}{S S1 S2:Store}(h:Kp O O1 S S1)(k:Kp O1 O2 S1 S2):Kp O O2 S S2:=fun j x a b=>by
 obtain⟨p,q⟩:=h j x a b
 exact k j x p q
theorem Kp.cons{O O':Nat->Prop}{S S':Store}(h:Kp O O' S S'){b:Nat}(hb:Zm S' b)(x:AObj):Kp O O' S ((b,x)::S'):=fun k y h1 h2=>by
 obtain⟨a,c⟩:=h k y h1 h2
 exact⟨by rw[Zg hb (by rw[a];rfl)];exact a,c⟩
theorem Kp.set{O O':Nat->Prop}{S S':Store}(h:Kp O O' S S'){b:Nat}(hb:O b\/Zm S b)(x:AObj):Kp O O' S (S'.set b x):=fun k y h1 h2=>by
 obtain⟨a,c⟩:=h k y h1 h2
 have hne:k≠b:=fun e=>by
  rw[e] at h1 h2
  rcases hb with hb|hb
  ·exact h2 hb
  ·rw[Zj hb] at h1;cases h1
 exact⟨by rw[Za hne];exact a,c⟩
theorem Kp.imp{O O' U U':Nat->Prop}{S S':Store}(h:Kp O O' S S')(a:∀ k,(S.get k).isSome=true->O k->U k)(b:∀ k,U' k->O' k):Kp U U' S S':=fun k x h1 h2=>by
 obtain⟨p,q⟩:=h k x h1 (fun ho=>h2 (a k xD ho))
 exact⟨p,fun hu=>q (b k hu)⟩
theorem Kp.grow{O:Nat->Prop}{σ0 S S':Store}{v v':AV}{sz:Nat}{es:List (List AV)}(h:LV σ0 S v sz es)(k:Tn [] v v' S S'){j:Nat}{x:AObj}(g:S.get j=some x)(hx:∀ e c,x≠.tail e c):S'.get j=some x/\Ym v'≠some j :=
 k j x g xf (fun e=>by obtain⟨a,c,q⟩:=h.tipAt e;rw[g] at q;injection q with q;exact hx _ _ q)
theorem LV.kp{O O':Nat->Prop}{σ0 S S':Store}{v:AV}{sz:Nat}{es:List (List AV)}(h:LV σ0 S v sz es)(k:Kp O O' S S')(ho:∀ b,O b->∃ c,S.get b=some (.cells c)):LV σ0 S' v sz es:=by
 obtain⟨rt,s',rfl,hz,ht⟩:=h
 exact⟨rt,s',rfl,hz,ht.imp id (fun⟨b,e,c,h1,h2,h3,h4⟩=>⟨b,e,c,h1,h2,(k b _ h3 (fun hb=>by obtain⟨c',hc⟩:=ho b hb;rw[h3] at hc;cases hc)).1,h4⟩)⟩
def LF(σ0 S:Store)(v:AV)(sz:Nat)(es:List (List AV)):Prop :=
 ∃ rt s',v=.list rt s' es/\(s'=sz\/es=[])/\(rt=.full\/∃ b e c,rt=.tip b e c/\s'=sz/\S.get b=some (.tail e c)/\Zm σ0 b)
theorem LF.of{σ0 S:Store}{v:AV}{sz:Nat}{es:List (List AV)}(h:LV σ0 S v sz es):LF σ0 S v sz es:=by
 obtain⟨rt,s',e,hz,ht⟩:=h
 exact⟨rt,s',e,hz,ht.imp (fun h=>h.1) id⟩
theorem LF.wk{σ0 S:Store}{v:AV}{sz:Nat}{es:List (List AV)}(h:LF σ0 S v sz es):Wk v (.list .none sz es):=by
 exact sN
theorem LF.one{σ0 S:Store}{v:AV}{sz:Nat}{es:List (List AV)}(h:LF σ0 S v sz es):v.one=true:=by obtain⟨rt,s',rfl,_⟩:=h;rfl
theorem LF.base{σ0 S S':Store}{v:AV}{sz:Nat}{es:List (List AV)}(h:LF S S' v sz es)(k:Has σ0 S):LF σ0 S' v sz es:=by
 exact rX
theorem LF.keep{σ0 S S':Store}{v:AV}{sz:Nat}{es:List (List AV)}(h:LF σ0 S v sz es)(k:∀ b x,S.get b=some x->S'.get b=some x):LF σ0 S' v sz es:=by
 exact rZ
theorem LF.append{sz by_:Nat}{z:nG}{σ0 S:Store}{v:AV}{es ys:List (List AV)}{r2:Rt}{s2:Nat}{K:AV->Store->Prop}(h:LF σ0 S v sz es)
 (hzs:z.cells.size=sz) (hb5:by_<=512) (hl:es.length+ys.length<=137438953472) (h2:s2=sz\/ys=[]) (hH:Has σ0 S) (k:∀ v' S',LF σ0 S' v' sz (es++ys)->Tv S S'->Has σ0 S'->K v' S'):apZ (some sz) (some z) (some by_) v (.list r2 s2 ys) S K:=by
 obtain⟨rt,s',rfl,hsz,ht⟩:=h
 unfold apZ
 refine⟨hzs,hb5,by simp only[lim];exact hl,hsz,h2,?_⟩
 rcases ht with rfl|⟨b0,e0,c0,rfl,rfl,hg,hf⟩
 ·refine⟨fun hn=>k _ _ ⟨.full,s',by rw[hn,kh],?_,.inl rfl⟩ (.refl _) hH,fun _ b e c hb=>k _ _ ⟨_,_,rfl,.inl rfl,.inr ⟨b,e,c,rfl,rfl,Ze _ _ _,hH.fresh hb⟩⟩ (.cons hb _) (hH.cons _)⟩
  rw[hn,kh]
  exact hsz
 ·exact pw
def MW(σ:Store)(sz:Nat)(S:Store)(v:AV)(es:List (List AV)):Prop :=
 (es=[]/\∃ s,v=.list .full s [])\/∃ b cap rest,v=.val (.slice (some ⟨b,0,none⟩) es.length cap)/\S.get b=some (.cells (es.flatten++rest))/\es.length * sz+rest.length=cap * sz/\es.length<=cap/\Zm σ b
theorem MW.one{σ:Store}{sz:Nat}{S:Store}{v:AV}{es:List (List AV)}(h:MW σ sz S v es):v.one=true/\v.cells=some [v]:=by
 rcases h with⟨_,s,rfl⟩|⟨b,cap,rest,rfl,_⟩<;>exact⟨rfl,rfl⟩
theorem flen{α:Type}{sz:Nat}{es:List (List α)}(h:∀ e∈es,e.length=sz):es.flatten.length=es.length * sz :=
 (WE es (fun i e he=>h e (iG he))).1
def blk:AV->nM Nat
 | .val (.slice (some a) _ _)=>some a.block
 | _=>none
abbrev Bk (v:AV):Nat->Prop:=fun k=>blk v=some k
theorem MW.at{σ:Store}{sz:Nat}{S:Store}{v:AV}{es:List (List AV)}(h:MW σ sz S v es){b:Nat}(hb:blk v=some b):(∃ c,S.get b=some (.cells c))/\Zm σ b:=by
 rcases h with⟨_,s,rfl⟩|⟨b',cap,rest,rfl,hg,_,_,hf⟩
 ·cases hb
 ·simp only[blk,jq] at hb
  subst hb
  exact⟨⟨_,hg⟩,hf⟩
theorem MW.app{P:nE}{sT xT el by_ sz:Nat}{z:nG}{σ S:Store}{v:AV}{es ys:List (List AV)}{rt:Rt}{s2:Nat}{K:AV->Store->Prop}(h:MW σ sz S v es)(hes:∀ e∈es,e.length=sz)(hys:∀ e∈ys,e.length=sz)(he1:es.flatten.all AV.one=true)(hy1:ys.flatten.all AV.one=true)(hs2:s2=sz\/ys=[])
 (h1:Yf P sT=some el) (h2:ZB P el=some sz) (h3:Zy P el=some z) (h4:ZY P el=some by_) (h5:(Yf P xT).isSome=true) (h6:z.cells.size=sz) (h7:by_<=512) (hl:es.length+ys.length<=137438953472) (hH:Has σ S)
 (kk:∀ v' S',MW σ sz S' v' (es++ys)->Kp (Bk v) (Bk v') S S'->Has σ S'->K v' S'):TJ P sT xT v (.list rt s2 ys) S K:=by
 unfold TJ
 rw[h1]
 simp only[h2,h3,h4]
 refine⟨h5,h6,h7,hs2,hys,?_⟩
 have new:∀ (b:Nat) (x:AObj) (n c:Nat),Zm S b->Kp (Bk v) (Bk (.val (.slice (some ⟨b,0,none⟩) n c))) S ((b,x)::S):=fun b x n c hb k y hk _ =>
  ⟨by rw[Zg hb xC];exact hk,fun e=>by simp only[Bk,blk,jq] at e;rw[<- e,Zj hb] at hk;cases hk⟩
 rcases h with⟨rfl,s,rfl⟩|⟨b,cap,rest,rfl,hg,hcap,hle,hf⟩
 ·simp only
  refine⟨by simp only[lim];exact hl,by simp,by simp,fun h=>?_,fun hne b nc zs hb hnc hzs=>?_⟩
  ·subst h
   exact kk _ _ (.inl ⟨rfl,s,rfl⟩) (.refl _ _) hH
  ·simp only[im,jG] at hnc hzs
   refine kk _ _ (.inr ⟨b,nc,zs,by simp,?_,?_,by simpa using hnc,hH.fresh hb⟩) (new b _ _ _ hb) (hH.cons _)
   ·rw[Ze];simp
   ·simp only[kF,hzs,<- lZ];congr 1;omega
 ·simp only
  have hfl:=flen hes
  have hcs:(es.flatten++rest).length=cap * sz:=by rw[ii,hfl];exact hcap
  have htk:(es.flatten++rest).take (es.length * sz)=es.flatten:=by rw[<- hfl,mD (kO _),iW (kO _)]
  refine⟨_,hg,hcs,hle,by simp only[lim];exact hl,hy1,by rw[htk];exact he1,fun hfit=>?_,fun hno b' nc zs hb' hnc hzs=>?_⟩
  ·have hyl:=flen hys
   have hrl:ys.length * sz<=rest.length:=by
    have:(es.length+ys.length) * sz<=cap * sz:=lY _ hfit
    rw[lZ] at this;omega
   refine kk _ _ (.inr ⟨b,cap,rest.drop (ys.length * sz),by simp,?_,?_,by simpa using hfit,hf⟩) (fun k y hk hn=>⟨by rw[Za (fun e=>hn (by rw[e];rfl))];exact hk,hn⟩) (hH.set hf _)
   ·rw[Zd hg]
    have:Yn (es.flatten++rest) (es.length * sz) ys.flatten=(es++ys).flatten++rest.drop (ys.length * sz):=by
     unfold Yn
     rw[htk,hyl,<- hfl,List.drop_append]
     simp[hyl]
    rw[this]
   ·simp only[ii,iP,lZ];omega
  ·refine kk _ _ (.inr ⟨b',nc,zs,by simp,?_,?_,by simpa using hnc,hH.fresh hb'⟩) (new b' _ _ _ hb') (hH.cons _)
   ·rw[Ze,htk];simp
   ·simp only[ii,hzs,<- lZ];congr 1;omega
theorem MW.cell{σ:Store}{sz:Nat}{S S':Store}{v:AV}{es:List (List AV)}(h:MW σ sz S v es)(k:∀ b c,blk v=some b->S.get b=some (.cells c)->S'.get b=some (.cells c)):MW σ sz S' v es:=by
 rcases h with h|⟨c,cap,rest,h1,h2,h3,h4,h5⟩
 ·exact .inl h
 ·exact .inr ⟨c,cap,rest,h1,k _ _ xD h2,h3,h4,h5⟩
theorem MW.kp{σ:Store}{sz:Nat}{S S':Store}{v:AV}{es:List (List AV)}{O O':Nat->Prop}(h:MW σ sz S v es)(k:Kp O O' S S')(hn:∀ b,blk v=some b->¬ O b):MW σ sz S' v es/\∀ b,blk v=some b->¬ O' b:=by
 refine⟨h.cell fun b c hb hc=>(k b _ hc (hn b hb)).1,fun b hb=>?_⟩
 obtain⟨c,hc⟩:=(h.at hb).1
 exact(k b _ hc (hn b hb)).2
theorem MW.frz{σ S:Store}{sz:Nat}{v:AV}{es:List (List AV)}(h:MW σ sz S v es)(hes:∀ e∈es,e.length=sz)(he1:es.flatten.all AV.one=true)(hl:es.length<=137438953472)(hH:Has σ S) :
 ∃ S',Xq v S (.list .none sz es) S'/\(∀ k x,S.get k=some x->blk v≠some k->S'.get k=some x)/\Has σ S'/\∀ w,Zq S w->Zq S' w/\Ev S w S' w:=by
 rcases h with⟨rfl,s,rfl⟩|⟨b,cap,rest,rfl,hg,hcap,hle,hf⟩
 ·exact⟨S,.of (.nilA _ _ _) (.refl _),fun _ _ h _=>h,hH,fun w ho=>⟨ho,.refl _ _⟩⟩
 ·have hfl:=flen hes
  refine⟨S.del b,fO (es:=es) (sz:=sz) hg rfl hle (by simp only[lim];exact hl) (fun i e he=>hes e (iG he)) ?_ he1,fun k x hk hn=>?_,fun p hp=>?_,fun w ho=>⟨ho.sub (WR S b),(WR S b).ev w⟩⟩
  ·rw[<- hfl,mD (kO _),iW (kO _)]
  ·rw[Xi (fun e=>hn (by rw[e];rfl))];exact hk
  ·obtain⟨k,x⟩:=p
   exact U6 (hH _ hp) (YP hf hp)
theorem DN{α:Type}(f:α->List AV)(h:∀ x,(f x).all AV.one=true)(l:List α):(l.map f).flatten.all AV.one=true:=by
 induction l with
 | nil=>rfl
 | cons a r ih=>rw[iR,mn,mQ,h a,ih];rfl
theorem fR(t:Ty):t.emb.all AV.one=true:=by cases t;rfl
theorem Ty.emb_len(t:Ty):t.emb.length=2:=by cases t;rfl
theorem ek(l:List Ty):∀ e∈cI l,e.length=2:=fun e he=>by rw[di] at he;obtain⟨t,_,rfl⟩:=List.mem_map.1 he;exact t.emb_len
theorem eB(l:List Ty):(cI l).flatten.all AV.one=true:=by rw[di];exact DN _ fR l
theorem eW(l m:List Ty):cI (l++m)=cI l++cI m:=by simp[di]
theorem AWp.shift{P:nE}{n:Nat}{ds:List nK}{c:Code}{Q:Exit->Fr->Store->Prop}{fr fr':Fr}{σ σ':Store}(hs:Uo fr σ fr' σ')(h:AWp P n ds c Q fr' σ'):AWp P n ds c Q fr σ:=fun a w hc Q' hq=>by
 obtain⟨c2,v2⟩:=hs.conf hc
 exact h a w c2 Q' (fun e f s a' w' q c' v=>hq e f s a' w' q c' (v2.trans v))
theorem Uo.put{fr:Fr}{σ σ':Store}{k:Nat}{v v':AV}(hk:fr k=v)(h:Xq v σ v' σ')(h0:∀ w,Zq σ w->Zq σ' w/\Ev σ w σ' w):Uo fr σ (fr.put k v') σ':=by
 intro n w tmps ho hf
 obtain⟨o1,e1⟩:=h0 w ho
 refine⟨o1,⟨hf.size,fun i hi=>?_⟩,e1⟩
 by_cases e:i=k
 ·subst e;simp only[Fr.put,iE]
  have:=hf.slot i hi
  rw[hk] at this
  exact(h w _ ho this).1
 ·simp only[Fr.put,e,lJ];exact(hf.slot i hi).ev e1
end Go.Vx
end
