/- A part of the proof of clausalSpinesProved. -/
import Derived.Test.YtllgjklcpieanaaGreatDoorR28
set_option linter.unusedVariables false
set_option linter.unusedSimpArgs false
set_option maxRecDepth 100000
section
namespace Go.Vx
open Go.Proofs Go.RowKit
def Wkl:List AV->List AV->Prop
 | [],[]=>True
 | a::r,b::s=>Wk a b/\Wkl r s
 | _,_=>False
theorem Wkl.at:∀ {r s:List AV},Wkl r s->r.length=s.length/\∀ (i:Nat) (c c':AV),r[i]?=some c->s[i]?=some c'->Wk c c'
 | [],[],_=>⟨rfl,by simp⟩
 | a::r,b::s,h=>by
   obtain⟨h1,h2⟩:=h
   have:=Wkl.at h2
   refine⟨by simp[this.1],fun i c c' e e'=>?_⟩
   cases i with
   | zero=>simp at e e';subst e;subst e';exact h1
   | succ i=>simp at e e';exact this.2 i c c' e e'
theorem Wkl.agg{r s:List AV}(h:Wkl r s):Wk (.agg r) (.agg s):=Wk.agg h.at.1 h.at.2
theorem Lg:∀ t:Ty,Pur nC 98 [.agg t.emb] (.agg t.emb):=by
 intro t
 induction t using eC with|h s l ih=>?_
 intro σ
 refine Zh.nodup xy (fun hnd=>?_)
 refine Zh.ok xy (fun hok=>?_)
 have hlen:=(((hok (.agg (Ty.mk s l).emb) xf).agg (c:=.list .none 2 (cI l)) (by simp[cQ])).len)
 rw[cG] at hlen
 clear hok
 simp only[cQ]
 refine Zb [] [(5,5,0)] Tryz.func98 rfl xy ?_;rw[Tryz.ntmps98,Tryz.results98]
 exact oh
theorem OQ:∀ t:Ty,Pur nC 54 [.agg t.emb] (.agg t.emb):=by
 intro t
 induction t using eC with|h s l ih=>?_
 intro σ
 refine Zh.nodup xy (fun hnd=>?_)
 refine Zh.ok xy (fun hok=>?_)
 have hlen:=(((hok (.agg (Ty.mk s l).emb) xf).agg (c:=.list .none 2 (cI l)) (by simp[cQ])).len)
 rw[cG] at hlen
 clear hok
 simp only[cQ]
 refine Zb [] [(5,5,0)] Tryz.func54 rfl xy ?_;rw[Tryz.ntmps54,Tryz.results54]
 exact oh
end Go.Vx
end
section
namespace Go.Vx
open Go.Proofs Go.RowKit
def Ym:AV->nM Nat
 | .list (.tip b _ _) _ _=>some b
 | _=>none
def Tn(own:List Nat)(w w':AV)(S S':Store):Prop:=∀ k x,S.get k=some x->k ∉ own->Ym w≠some k->S'.get k=some x/\Ym w'≠some k
theorem Tn.refl(own:List Nat)(w:AV)(S:Store):Tn own w w S S:=fun k x h _ h2=>⟨h,h2⟩
theorem Tn.trans{own:List Nat}{u v w:AV}{R S T:Store}(h:Tn own u v R S)(k:Tn own v w S T):Tn own u w R T:=fun j x h1 h2 h3=>by
 obtain⟨a,b⟩:=h j x h1 h2 h3
 exact k j x a h2 b
theorem Tn.cons{own:List Nat}{w w':AV}{S S':Store}(h:Tn own w w' S S'){b:Nat}(hb:Zm S' b)(x:AObj):Tn own w w' S ((b,x)::S'):=fun k y h1 h2 h3=>by
 obtain⟨a,c⟩:=h k y h1 h2 h3
 exact⟨by rw[Zg hb (by rw[a];rfl)];exact a,c⟩
theorem Tn.set{own:List Nat}{w w':AV}{S S':Store}(h:Tn own w w' S S'){b:Nat}(hb:b∈own)(x:AObj):Tn own w w' S (S'.set b x):=fun k y h1 h2 h3=>by
 obtain⟨a,c⟩:=h k y h1 h2 h3
 exact⟨by rw[Za (fun e=>h2 (by rw[e];exact hb))];exact a,c⟩
theorem Tn.setF{own:List Nat}{w w':AV}{S S':Store}(h:Tn own w w' S S'){b:Nat}(hb:Zm S b)(x:AObj):Tn own w w' S (S'.set b x):=fun k y h1 h2 h3=>by
 obtain⟨a,c⟩:=h k y h1 h2 h3
 exact⟨by rw[Za (fun e=>by rw[e,Zj hb] at h1;cases h1)];exact a,c⟩
theorem Tn.wide{own own':List Nat}{w w':AV}{S S':Store}(h:Tn own w w' S S')(k:∀ b∈own,b∈own'):Tn own' w w' S S':=fun j x h1 h2 h3=>h j x h1 (fun e=>h2 (k j e)) h3
theorem LV.tipAt{σ0 S:Store}{v:AV}{sz k:Nat}{es:List (List AV)}(h:LV σ0 S v sz es)(e:Ym v=some k):∃ a c,S.get k=some (.tail a c):=by
 obtain⟨rt,s',rfl,_,ht⟩:=h
 rcases ht with⟨rfl,_⟩|⟨b,a,c,rfl,_,hg,_⟩
 ·simp[Ym] at e
 ·simp[Ym] at e;subst e;exact⟨_,_,hg⟩
theorem LV.notCells{σ0 S:Store}{v:AV}{sz k:Nat}{es:List (List AV)}{c:List AV}(h:LV σ0 S v sz es)(g:S.get k=some (.cells c)):Ym v≠some k:=fun e=>by
 obtain⟨a,d,q⟩:=h.tipAt e
 rw[g] at q;cases q
def Apt(v w:AV):Prop:=∀ k,Ym v=some k->Ym w≠some k
theorem Apt.symm{v w:AV}(h:Apt v w):Apt w v:=fun k e f=>h k f e
theorem LV.tn{σ0 S S':Store}{v w w':AV}{sz:Nat}{es:List (List AV)}{own:List Nat}(h:LV σ0 S v sz es)(k:Tn own w w' S S')(ha:Apt v w)(ho:∀ b∈own,∃ c,S.get b=some (.cells c)):LV σ0 S' v sz es/\Apt v w':=by
 have go:∀ j,Ym v=some j->S'.get j=S.get j/\Ym w'≠some j:=fun j e=>by
  obtain⟨a,c,g⟩:=h.tipAt e
  obtain⟨p,q⟩:=k j _ g (fun hm=>by obtain⟨d,hd⟩:=ho j hm;rw[g] at hd;cases hd) (ha j e)
  exact⟨p.trans g.symm,q⟩
 refine⟨?_,fun j e=>(go j e).2⟩
 obtain⟨rt,s',rfl,hz,ht⟩:=h
 exact⟨rt,s',rfl,hz,ht.imp id (fun⟨b,e,c,h1,h2,h3,h4⟩=>⟨b,e,c,h1,h2,by rw[(go b xD).1];exact h3,h4⟩)⟩
theorem LV.appT{sz by_:Nat}{z:nG}{σ0 S:Store}{v:AV}{es ys:List (List AV)}{r2:Rt}{s2:Nat}{K:AV->Store->Prop}(h:LV σ0 S v sz es)
 (hzs:z.cells.size=sz) (hb5:by_<=512) (hl:es.length+ys.length<=137438953472) (h2:s2=sz) (hne:ys≠[]) (hH:Has σ0 S) (k:∀ v' S',LV σ0 S' v' sz (es++ys)->Tn [] v v' S S'->Has σ0 S'->K v' S'):apZ (some sz) (some z) (some by_) v (.list r2 s2 ys) S K:=by
 obtain⟨rt,s',rfl,hsz,ht⟩:=h
 unfold apZ
 refine⟨hzs,hb5,by simp only[lim];exact hl,hsz,.inl h2,?_⟩
 rcases ht with⟨rfl,rfl⟩|⟨b0,e0,c0,rfl,rfl,hg,hf⟩
 ·refine⟨fun h=>absurd h hne,fun _ b e c hb=>?_⟩
  refine k _ _ ⟨_,_,rfl,.inl rfl,.inr ⟨b,e,c,rfl,rfl,Ze _ _ _,hH.fresh hb⟩⟩ (fun j x h1 _ _=>?_) (hH.cons _)
  refine⟨by rw[Zg hb xD];exact h1,fun e=>?_⟩
  simp[Ym] at e
  rw[<- e,Zj hb] at h1
  cases h1
 ·refine⟨hg,rfl,fun b e c hb=>?_⟩
  have hd:Has σ0 (S.del b0):=fun p hp=>by obtain⟨j,x⟩:=p;exact U6 (hH _ hp) (YP hf hp)
  refine k _ _ ⟨_,_,rfl,.inl rfl,.inr ⟨b,e,c,rfl,rfl,Ze _ _ _,hd.fresh hb⟩⟩ (fun j x h1 _ h3=>?_) (hd.cons _)
  have hj:j≠b0:=fun e=>h3 (by rw[e];rfl)
  have h1':(S.del b0).get j=some x:=by rw[Xi hj];exact h1
  refine⟨by rw[Zg hb (by rw[h1'];rfl)];exact h1',fun e=>?_⟩
  simp[Ym] at e
  rw[<- e,Zj hb] at h1'
  cases h1'
structure Nu where
 σ:Store
 K:Int
 b3:Nat
 bc:Nat
 bv:Nat
def Nu.clo(D:Nu):nG:=.func (.func 304) #[] #[.pointer (some ⟨D.b3,0,none⟩),.pointer (some ⟨D.bc,0,none⟩),.pointer (some ⟨D.bv,0,none⟩)]
structure NI (D:Nu) (acc:List Int) (w:AV) (S:Store):Prop where
 g3:S.get D.b3=some (.cells [vi D.K])
 gc:S.get D.bc=some (.cells [w])
 gv:S.get D.bv=some (.cells [.val D.clo])
 lv:LV D.σ S w 1 (Zu acc)
 has:Has D.σ S
 n3:D.b3≠D.bc
 nv:D.bv≠D.bc
 fc:Zm D.σ D.bc
theorem NI.cons{D:Nu}{acc:List Int}{w:AV}{S:Store}(h:NI D acc w S){b:Nat}(hb:Zm S b)(x:AObj):NI D acc w ((b,x)::S) :=
 { h with g3:=by rw[Zg hb (by rw[h.g3];rfl)];exact h.g3,gc:=by rw[Zg hb (by rw[h.gc];rfl)];exact h.gc,gv:=by rw[Zg hb (by rw[h.gv];rfl)];exact h.gv,lv:=h.lv.cons hb _,has:=h.has.cons _ }
theorem NI.set{D:Nu}{acc:List Int}{w:AV}{S:Store}(h:NI D acc w S){b:Nat}{c:List AV}(g:S.get b=some (.cells c))(hf:Zm D.σ b)(m1:D.b3≠b)(m2:D.bc≠b)(m3:D.bv≠b)(x:AObj):NI D acc w (S.set b x) :=
 { h with g3:=by rw[Za m1];exact h.g3,gc:=by rw[Za m2];exact h.gc,gv:=by rw[Za m3];exact h.gv,lv:=h.lv.set g xf _,has:=h.has.set hf _ }
theorem NI.tn{D:Nu}{acc:List Int}{w v v':AV}{S S' σ0:Store}{sz:Nat}{es:List (List AV)}(h:NI D acc w S)(hv:LV σ0 S v sz es)(ha:Apt v w)(k:Tn [] v v' S S')(hH:Has D.σ S'):NI D acc w S'/\Apt v' w:=by
 have go:∀ j c,S.get j=some (.cells c)->S'.get j=some (.cells c):=fun j c g=>(k j _ g xf (hv.notCells g)).1
 have hl:=h.lv.tn k ha.symm xf
 exact⟨{ h with g3:=go _ _ h.g3,gc:=go _ _ h.gc,gv:=go _ _ h.gv,lv:=hl.1,has:=hH },hl.2.symm⟩
def XJ(l:List Int)(x:Int):List Int:=if l.contains x then l else l++[x]
mutual
def nuT(K:Int):Tm->List Int->List Int
 | .mk k n s l,acc=>UB K l (if k=K then XJ acc n else acc)
def UB(K:Int):List Tm->List Int->List Int
 | [],acc=>acc
 | t::r,acc=>UB K r (nuT K t acc)
end
theorem SY(K:Int)(l:List Tm)(i:Nat)(t:Tm)(h:l[i]?=some t)(acc:List Int):UB K (l.take (i+1)) acc=nuT K t (UB K (l.take i) acc):=by
 induction l generalizing i acc with
 | nil=>simp at h
 | cons a r ih =>
   cases i with
   | zero=>simp at h;subst h;simp[UB]
   | succ i=>simp only[lh,UB];exact ih i xJ _
mutual
def Ro.nds:Ro->Nat
 | .mk l=>1+cP l
def cP:List Ro->Nat
 | []=>0
 | t::r=>t.nds+cP r
end
theorem Zv{S:Store}{a b:Nat}{x:AObj}(g:S.get a=some x)(h:Zm S b):a≠b:=fun e=>by rw[e,Zj h] at g;cases g
theorem Pt(l:List Int)(x:Int):(XJ l x).length<=l.length+1:=by unfold XJ;split<;>simp
mutual
theorem Cz(K:Int):∀ (t:Tm) (acc:List Int),(nuT K t acc).length<=acc.length+t.shape.nds
 | .mk k n s l,acc=>by
   simp only[nuT,Tm.shape,Ro.nds]
   have h:=W8 K l (if k=K then XJ acc n else acc)
   have h2:(if k=K then XJ acc n else acc).length<=acc.length+1:=by
    split
    ·exact Pt _ _
    ·omega
   omega
theorem W8(K:Int):∀ (l:List Tm) (acc:List Int),(UB K l acc).length<=acc.length+cP (cK l)
 | [],acc=>by simp[UB]
 | t::r,acc=>by
   simp only[UB,cK,cP]
   have h1:=Cz K t acc
   have h2:=W8 K r (nuT K t acc)
   omega
end
theorem ZL(a b:List Ro):cP (a++b)=cP a+cP b:=by
 induction a with
 | nil=>simp[cP]
 | cons t r ih=>simp only[kE,cP,ih];omega
theorem YO(l:List Ro)(i:Nat):cP (l.take i)<=cP l:=by
 have:=ZL (l.take i) (l.drop i)
 rw[jl] at this
 omega
mutual
theorem Na:∀ (t:Ro) (m:Int),0<=m->prt t m=min (t.nds:Int) (m+1)
 | .mk l,m,h=>by
   simp only[prt,Ro.nds]
   rw[ME l 1 m xh xh]
   omega
theorem ME:∀ (l:List Ro) (n m:Int),1<=n->n<=m+1->Yc l n m=min (n+(cP l:Int)) (m+1)
 | [],n,m,h1,h2=>by simp only[Yc,cP];omega
 | t::r,n,m,h1,h2=>by
   simp only[Yc,cP]
   split
   ·rename_i h
    have e:=Na t (m-n) xh
    have hb:=Wg t (m-n) xh
    rw[ME r _ m xh xh,e]
    omega
   ·omega
end
theorem ZZ(l:List Int):(Zu l).length=l.length:=by simp[Zu]
theorem Ge(D:Nu)(acc:List Int)(w:AV)(S:Store)(x:Int)(h:NI D acc w S)(hl:acc.length<=1000000) :
 Zh nC 305 [.val (.pointer (some ⟨D.bc,0,none⟩)),vi x] S (fun r S'=>r=.ret (.tup [])/\∃ w',NI D (XJ acc x) w' S'/\Tn [D.bc] w w' S S'):=by
 obtain⟨rt,s',e,hz,_⟩:=id h.lv
 subst e
 have gc:=h.gc
 have hz':s'=1\/acc=[]:=hz.imp id (fun h=>by simpa[Zu] using h)
 have hL:=h.lv
 refine Zb [] [] Tryz.func305 rfl xy ?_;rw[Tryz.ntmps305,Tryz.results305]
 try simp only[go_sem,seval,gc]
 refine Zp (mu:=[]) (dr:=[]) [5,11,12,13,14,15,16,17,18] (fun i:Nat=>[(11,vi i)]) (fun _=>S) (fun i=>i<=acc.length/\∀ j:Nat,j<i->acc[j]?≠some x) (fun i=>acc.length-i) 0 xy ⟨by omega,fun j hj=>by omega⟩ ⟨.refl _,trivial⟩ (.refl _) ?_
 rintro i ⟨hi,hb⟩
 refine uB fun x0=>?_
 by_cases c:i<acc.length
 ·have x1:((i:Int)<(acc.length:Int))=True:=iS xh
  obtain⟨y,hy⟩:∃ y,acc[i]?=some y:=⟨acc[i],iO c⟩
  have gy:(Zu acc)[i]?=some [vi y]:=by simp[Zu,hy]
  have s1:s'=1:=hz'.resolve_right (fun e=>by rw[e] at c;simp at c)
  subst s1
  try simp only[go_sem,seval,gc,ZZ,x0,x1,gy,iT,iF,jq,jr,jt]
  by_cases exy:x=y
  ·have z:=iS exy
   have ea:XJ acc x=acc:=by unfold XJ;rw[gZ];rw[mK,exy];exact iG hy
   rw[ea]
   try simp only[go_sem,seval,z,iT]
   exact .mk (.refl _) (.refl _) ⟨rfl,_,h,.refl _ _ _⟩
  ·have z:=iU exy
   refine vz fun hw64=>?_
   try simp only[go_sem,seval,z,hw64,iV]
   refine .mk (i+1) ⟨by omega,fun j hj=>?_⟩ xh ⟨.refl _,trivial⟩ yS (.refl _)
   by_cases e2:j=i
   ·rw[e2,hy];intro hh;injection hh with hh;exact exy hh.symm
   ·exact hb j xh
 ·have x1:((i:Int)<(acc.length:Int))=False:=iU xh
  have ea:XJ acc x=acc++[x]:=by
   unfold XJ
   rw[ig]
   intro hc
   rw[mK] at hc
   obtain⟨j,hj,hx⟩:=iN hc
   exact sV
  try simp only[go_sem,seval,gc,ZZ,x0,x1,iV]
  refine⟨rfl,hL.appT rfl xj yA rfl xf h.has (fun v' S' hv' hT hS'=>?_)⟩
  have g':=(hT _ _ gc xf (hL.notCells gc)).1
  have g3':=(hT _ _ h.g3 xf (hL.notCells h.g3)).1
  have gv':=(hT _ _ h.gv xf (hL.notCells h.gv)).1
  try simp only[go_sem,seval,g',hv'.one,hv'.cells]
  refine .mk (.refl _) (.refl _) ⟨rfl,v',?_,(hT.wide xf).set xf _⟩
  have ei:Zu (acc++[x])=Zu acc++[[vi x]]:=by simp[Zu]
  rw[ea]
  exact{ g3:=by rw[Za h.n3];exact g3',gc:=Zd g',gv:=by rw[Za h.nv];exact gv',lv:=by rw[ei];exact hv'.set g' xf _,has:=hS'.set h.fc _,n3:=h.n3,nv:=h.nv,fc:=h.fc }
def NuR(D:Nu)(acc:List Int)(w:AV)(S:Store)(rv:AV):ZE->Store->Prop:=fun r S'=>r=.ret rv/\∃ w',NI D acc w' S'/\Tn [D.bc] w w' S S'
theorem D6(D:Nu):∀ (t:Tm) (acc:List Int) (w:AV) (S:Store),NI D acc w S->acc.length+t.shape.nds<=1000000 ->
 Zh nC 304 [.agg t.emb,.val (.pointer (some ⟨D.b3,0,none⟩)),.val (.pointer (some ⟨D.bc,0,none⟩)),.val (.pointer (some ⟨D.bv,0,none⟩))] S (NuR D (nuT D.K t acc) w S (.tup [])):=by
 intro t
 induction t using ed with|h k n s l ih=>?_
 intro acc w S h hl
 refine Zh.ok xy (fun hok=>?_)
 refine vU fun hlen=>?_
 rw[cF] at hlen
 clear hok
 simp only[Tm.shape,Ro.nds] at hl
 simp only[cO,nuT]
 have g3:=h.g3
 refine Zb [] [] Tryz.func304 rfl xy ?_;rw[Tryz.ntmps304,Tryz.results304]
 try simp only[go_sem,seval,g3]
 by_cases hk:k=D.K
 ·have y:=iS hk
  rw[gZ hk]
  have hal:=Pt acc n
  refine vI ?_
  refine(Ge D acc w S n h xh).mono ?_
  rintro r S1 ⟨rfl,w1,h1,t1⟩
  refine uw ?_
  refine Zp (mu:=[]) (dr:=[]) [6,17,18,19,20,21,22,23,24] (fun x:Nat×AV×Store=>[(17,vi x.1)]) (fun x=>x.2.2)
   (fun x=>x.1<=l.length/\NI D (UB D.K (l.take x.1) (XJ acc n)) x.2.1 x.2.2/\Tn [D.bc] w x.2.1 S x.2.2) (fun x=>l.length-x.1) (0,_,_) xy ⟨by omega,h1,t1⟩ ⟨.refl _,trivial⟩ (.refl _) ?_
  rintro⟨i,w2,S2⟩ ⟨hi,h2,t2⟩
  dsimp only at hi h2 t2 ⊢
  refine uB fun x0=>?_
  by_cases c:i<l.length
  ·have x1:((i:Int)<(l.length:Int))=True:=iS xh
   obtain⟨t,ht⟩:∃ t,l[i]?=some t:=⟨l[i],iO c⟩
   have gt:(cJ l)[i]?=some t.emb:=by rw[cW,jp,ht];rfl
   refine uE fun hw=>?_
   have htk:=SY D.K l i t ht (XJ acc n)
   have hb1:=W8 D.K (l.take i) (XJ acc n)
   have hb2:cP (cK (l.take i))+t.shape.nds<=cP (cK l):=by
    exact qC
   have hc:=ih t (iG ht) (UB D.K (l.take i) (XJ acc n)) w2
   exact oI
  ·exact qO
 ·have y:=iU hk
  rw[ig hk]
  have h1:=h
  have t1:Tn [D.bc] w w S S:=.refl _ _ _
  have hal:acc.length<=acc.length+1:=by omega
  refine wz ?_
  refine Zp (mu:=[]) (dr:=[]) [6,17,18,19,20,21,22,23,24] (fun x:Nat×AV×Store=>[(17,vi x.1)]) (fun x=>x.2.2)
   (fun x=>x.1<=l.length/\NI D (UB D.K (l.take x.1) acc) x.2.1 x.2.2/\Tn [D.bc] w x.2.1 S x.2.2) (fun x=>l.length-x.1) (0,_,_) xy ⟨by omega,h1,t1⟩ ⟨.refl _,trivial⟩ (.refl _) ?_
  rintro⟨i,w2,S2⟩ ⟨hi,h2,t2⟩
  dsimp only at hi h2 t2 ⊢
  refine uB fun x0=>?_
  by_cases c:i<l.length
  ·have x1:((i:Int)<(l.length:Int))=True:=iS xh
   obtain⟨t,ht⟩:∃ t,l[i]?=some t:=⟨l[i],iO c⟩
   have gt:(cJ l)[i]?=some t.emb:=by rw[cW,jp,ht];rfl
   refine uE fun hw=>?_
   have htk:=SY D.K l i t ht acc
   have hb1:=W8 D.K (l.take i) acc
   have hb2:cP (cK (l.take i))+t.shape.nds<=cP (cK l):=by
    exact qC
   have hc:=ih t (iG ht) (UB D.K (l.take i) acc) w2
   exact oI
  ·exact qO
theorem Cb(D:Nu)(t:Tm)(q:Int)(acc:List Int)(w:AV)(S:Store)(h:NI D acc w S)(hl:acc.length+t.shape.nds<=1000000) :
 Zh nC 306 [.agg t.emb,vi q,.val (.pointer (some ⟨D.bv,0,none⟩))] S (NuR D (nuT D.K t acc) w S (.agg t.emb)):=by
 have hv:=D6 D t acc w
 generalize nuT D.K t acc=out at hv ⊢
 obtain⟨kt,nt,zt,lt⟩:=t
 simp only[cO] at hv ⊢
 refine Zb [] [] Tryz.func306 rfl xy ?_;rw[Tryz.ntmps306,Tryz.results306]
 refine uw ?_
 intro b5 hb5
 have h3:=h.cons hb5 (.cells [vi 0,vi 0,.val (.string { data:=#[] }),.list .full 0 []])
 have t3:=(Tn.refl [D.bc] w S).cons hb5 (.cells [vi 0,vi 0,.val (.string { data:=#[] }),.list .full 0 []])
 obtain⟨U,hU⟩:∃ U:Store,U=(b5,AObj.cells [vi 0,vi 0,.val (.string { data:=#[] }),.list .full 0 []])::S:=⟨_,rfl⟩
 rw[<- hU] at h3 t3 ⊢
 have u5:U.get b5=some (.cells [vi 0,vi 0,.val (.string { data:=#[] }),.list .full 0 []]):=by rw[hU];exact Ze _ _ _
 clear hU
 have gv:=h3.gv
 try simp only[go_sem,seval,gv,Nu.clo]
 refine(hv U h3 hl).mono ?_
 rintro r S4 ⟨rfl,w4,h4,t4⟩
 have n5:=Zv h.gc hb5
 obtain⟨v5,-⟩:=t4 _ _ u5 (by simp[n5.symm]) (h3.lv.notCells u5)
 try simp only[go_sem,seval,v5]
 exact .mk (.refl _) (.refl _) ⟨rfl,w4,h4.set v5 (h.has.fresh hb5) (Zv h.g3 hb5) n5 (Zv h.gv hb5) _,(t3.trans t4).setF hb5 _⟩
end Go.Vx
end
section
namespace Go.Vx
open Go.Proofs Go.RowKit
mutual
def nuF(K:Int):Fm->List Int->List Int
 | .mk k s a t l,acc=>SZ K l (UB K a acc)
def SZ(K:Int):List Fm->List Int->List Int
 | [],acc=>acc
 | f::r,acc=>SZ K r (nuF K f acc)
end
theorem Om(K:Int)(l:List Fm)(i:Nat)(t:Fm)(h:l[i]?=some t)(acc:List Int):SZ K (l.take (i+1)) acc=nuF K t (SZ K (l.take i) acc):=by
 induction l generalizing i acc with
 | nil=>simp at h
 | cons a r ih =>
   cases i with
   | zero=>simp at h;subst h;simp[SZ]
   | succ i=>simp only[lh,SZ];exact ih i xJ _
mutual
theorem CA(K:Int):∀ (f:Fm) (acc:List Int),(nuF K f acc).length<=acc.length+f.shape.nds
 | .mk k s a t l,acc=>by
   simp only[nuF,Fm.shape,Ro.nds]
   have h:=Sh K l (UB K a acc)
   have h2:=W8 K a acc
   rw[ZL]
   omega
theorem Sh(K:Int):∀ (l:List Fm) (acc:List Int),(SZ K l acc).length<=acc.length+cP (cR l)
 | [],acc=>by simp[SZ]
 | t::r,acc=>by
   simp only[SZ,cR,cP]
   have h1:=CA K t acc
   have h2:=Sh K r (nuF K t acc)
   omega
end
def Nu.cb(D:Nu):nG:=.func (.func 306) #[] #[.pointer (some ⟨D.bv,0,none⟩)]
structure CI (D:Nu) (b6 b7:Nat) (k:Int) (s ts:Str) (tl:List Ty) (w0:AV) (S0:Store) (va vl:AV) (ea:List Tm) (el:List Fm) (acc:List Int) (w:AV) (S:Store):Prop where
 g7:S.get b7=some (.cells [vi k,vs s,va,vs ts,.list .none 2 (cI tl),vl])
 g6:∃ y1 y2 y3 y4 y5 y6,S.get b6=some (.cells [y1,y2,y3,y4,y5,y6])
 la:LV D.σ S va 4 (cJ ea)
 ll:LV D.σ S vl 6 (cN el)
 pa:Apt va w
 pl:Apt vl w
 pal:Apt va vl
 ni:NI D acc w S
 n67:b6≠b7
 n7c:b7≠D.bc
 n6c:b6≠D.bc
 n73:b7≠D.b3
 n7v:b7≠D.bv
 f7:Zm D.σ b7
 f70:Zm S0 b7
 tn:∀ j x,S0.get j=some x->j≠D.bc->Ym w0≠some j->S.get j=some x/\Ym w≠some j/\Ym va≠some j/\Ym vl≠some j
theorem CI.cons{D:Nu}{b6 b7:Nat}{k:Int}{s ts:Str}{tl:List Ty}{w0:AV}{S0:Store}{va vl:AV}{ea:List Tm}{el:List Fm}{acc:List Int}{w:AV}{S:Store}
 (h:CI D b6 b7 k s ts tl w0 S0 va vl ea el acc w S) {b:Nat} (hb:Zm S b) (x:AObj):CI D b6 b7 k s ts tl w0 S0 va vl ea el acc w ((b,x)::S) :=
 { h with
   g7:=by rw[Zg hb (by rw[h.g7];rfl)];exact h.g7
   g6:=by obtain⟨y1,y2,y3,y4,y5,y6,g⟩:=h.g6;exact⟨y1,y2,y3,y4,y5,y6,by rw[Zg hb xA];exact g⟩
   la:=h.la.cons hb _,ll:=h.ll.cons hb _,ni:=h.ni.cons hb _
   tn:=fun j y a b c=>by obtain⟨p,q⟩:=h.tn j y a b c;exact⟨by rw[Zg hb (by rw[p];rfl)];exact p,q⟩ }
theorem CI.step{D:Nu}{b6 b7:Nat}{k:Int}{s ts:Str}{tl:List Ty}{w0:AV}{S0:Store}{va vl:AV}{ea:List Tm}{el:List Fm}{acc acc':List Int}{w w':AV}{S S':Store}
 (h:CI D b6 b7 k s ts tl w0 S0 va vl ea el acc w S) (hn:NI D acc' w' S') (ht:Tn [D.bc] w w' S S'):CI D b6 b7 k s ts tl w0 S0 va vl ea el acc' w' S':=by
 have own:∀ b∈[D.bc],∃ c,S.get b=some (.cells c):=fun b hb=>by simp at hb;rw[hb];exact⟨_,h.ni.gc⟩
 have h1:=h.la.tn ht h.pa own
 have h2:=h.ll.tn ht h.pl own
 obtain⟨y1,y2,y3,y4,y5,y6,g6⟩:=h.g6
 refine{ h with g7:=(ht _ _ h.g7 (by simp[h.n7c]) (h.ni.lv.notCells h.g7)).1,g6:=⟨y1,y2,y3,y4,y5,y6,(ht _ _ g6 (by simp[h.n6c]) (h.ni.lv.notCells g6)).1⟩,la:=h1.1,ll:=h2.1,pa:=h1.2,pl:=h2.2,ni:=hn,tn:=fun j x a b c=>?_ }
 obtain⟨p,q,r1,r2⟩:=h.tn j x a b c
 obtain⟨u,v⟩:=ht j x p (by simpa using b) q
 exact⟨u,v,r1,r2⟩
theorem CI.putA{D:Nu}{b6 b7:Nat}{k:Int}{s ts:Str}{tl:List Ty}{w0:AV}{S0:Store}{va va' vl:AV}{ea ea':List Tm}{el:List Fm}{acc:List Int}{w:AV}{S S':Store}
 (h:CI D b6 b7 k s ts tl w0 S0 va vl ea el acc w S) (hl:LV D.σ S' va' 4 (cJ ea')) (ht:Tn [] va va' S S') (hH:Has D.σ S') :
 S'.get b7=some (.cells [vi k,vs s,va,vs ts,.list .none 2 (cI tl),vl])/\CI D b6 b7 k s ts tl w0 S0 va' vl ea' el acc w (S'.set b7 (.cells [vi k,vs s,va',vs ts,.list .none 2 (cI tl),vl])):=by
 have g7:=(ht _ _ h.g7 xf (h.la.notCells h.g7)).1
 obtain⟨y1,y2,y3,y4,y5,y6,g6⟩:=h.g6
 have g6:=(ht _ _ g6 xf (h.la.notCells g6)).1
 have h1:=h.ll.tn ht h.pal.symm xf
 obtain⟨h2,h3⟩:=h.ni.tn h.la h.pa ht hH
 refine⟨g7,{ h with g7:=Zd g7,g6:=⟨y1,y2,y3,y4,y5,y6,by rw[Za h.n67];exact g6⟩,la:=hl.set g7 xf _,ll:=h1.1.set g7 xf _,pa:=h3,pal:=h1.2.symm,ni:=h2.set g7 h.f7 h.n73.symm h.n7c.symm h.n7v.symm _,tn:=fun j x a b c=>?_ }⟩
 obtain⟨p,q,r1,r2⟩:=h.tn j x a b c
 obtain⟨u,v⟩:=ht j x p xf r1
 exact⟨by rw[Za (Zv a h.f70)];exact u,q,v,r2⟩
theorem CI.putL{D:Nu}{b6 b7:Nat}{k:Int}{s ts:Str}{tl:List Ty}{w0:AV}{S0:Store}{va vl vl':AV}{ea:List Tm}{el el':List Fm}{acc:List Int}{w:AV}{S S':Store}
 (h:CI D b6 b7 k s ts tl w0 S0 va vl ea el acc w S) (hl:LV D.σ S' vl' 6 (cN el')) (ht:Tn [] vl vl' S S') (hH:Has D.σ S') :
 S'.get b7=some (.cells [vi k,vs s,va,vs ts,.list .none 2 (cI tl),vl])/\CI D b6 b7 k s ts tl w0 S0 va vl' ea el' acc w (S'.set b7 (.cells [vi k,vs s,va,vs ts,.list .none 2 (cI tl),vl'])):=by
 have g7:=(ht _ _ h.g7 xf (h.ll.notCells h.g7)).1
 obtain⟨y1,y2,y3,y4,y5,y6,g6⟩:=h.g6
 have g6:=(ht _ _ g6 xf (h.ll.notCells g6)).1
 have h1:=h.la.tn ht h.pal xf
 obtain⟨h2,h3⟩:=h.ni.tn h.ll h.pl ht hH
 refine⟨g7,{ h with g7:=Zd g7,g6:=⟨y1,y2,y3,y4,y5,y6,by rw[Za h.n67];exact g6⟩,ll:=hl.set g7 xf _,la:=h1.1.set g7 xf _,pl:=h3,pal:=h1.2,ni:=h2.set g7 h.f7 h.n73.symm h.n7c.symm h.n7v.symm _,tn:=fun j x a b c=>?_ }⟩
 obtain⟨p,q,r1,r2⟩:=h.tn j x a b c
 obtain⟨u,v⟩:=ht j x p xf r2
 exact⟨by rw[Za (Zv a h.f70)];exact u,q,r1,v⟩
theorem Gi(D:Nu):∀ (f:Fm) (q:Int) (acc:List Int) (w:AV) (S:Store),NI D acc w S->acc.length+f.shape.nds<=1000000 ->
 Zh nC 58 [.agg f.emb,vi q,.val D.cb] S (NuR D (nuF D.K f acc) w S (.agg f.emb)):=by
 intro f
 induction f using eg with|h k s a ty l ih=>?_
 obtain⟨ts,tl⟩:=ty
 intro q acc w S h hl
 refine Zh.ok xy (fun hok=>?_)
 have hlen:=(((hok (.agg (Fm.mk k s a (.mk ts tl) l).emb) xf).agg (c:=.list .none 4 (cJ a)) xt).len)
 have hlen2:=(((hok (.agg (Fm.mk k s a (.mk ts tl) l).emb) xf).agg (c:=.list .none 6 (cN l)) xt).len)
 rw[cF] at hlen
 rw[cU] at hlen2
 clear hok
 simp only[Fm.shape,Ro.nds,ZL] at hl
 have hcp:=Lg (.mk ts tl)
 have hqu:=OA (.mk k s a (.mk ts tl) l)
 dsimp only at hqu
 generalize quB k=qu at hqu
 simp only[cM,cQ,nuF] at hcp hqu ⊢
 refine Zb [] [(1,8,1),(5,7,8),(12,7,8)] Tryz.func58 rfl xy ?_;rw[Tryz.ntmps58,Tryz.results58]
 refine uw ?_
 intro b6 hb6
 refine uw ?_
 refine hcp.head ?_
 refine uw ?_
 intro b7 hb7
 refine⟨.inr (fun k x g=>by rw[Zg hb7 xA];exact g),?_⟩
 refine uw ?_
 have hc0:CI D b6 b7 k s ts tl w S (.list .full 0 []) (.list .full 0 []) [] [] acc w ((b7,.cells [vi k,vs s,.list .full 0 [],vs ts,.list .none 2 (cI tl),.list .full 0 []])::(b6,.cells [vi 0,.val (.string { data:=#[] }),.list .full 0 [],.val (.string { data:=#[] }),.list .full 0 [],.list .full 0 []])::S):=by
  have f7:Zm S b7:=hb7.2
  have n67:b6≠b7:=hb7.1
  exact { g7:=Ze _ _ _,g6:=⟨_,_,_,_,_,_,by rw[Zc n67.symm];exact Ze _ _ _⟩,la:=LV.nil _ _ _,ll:=LV.nil _ _ _,pa:=fun _ e=>by simp[Ym] at e,pl:=fun _ e=>by simp[Ym] at e,pal:=fun _ e=>by simp[Ym] at e,
          ni:=(h.cons hb6 _).cons hb7 _,n67:=n67,n7c:=(Zv h.gc f7).symm,n6c:=(Zv h.gc hb6).symm,n73:=(Zv h.g3 f7).symm,n7v:=(Zv h.gv f7).symm,f7:=h.has.fresh f7,f70:=f7,
          tn:=fun j x a b c=>⟨by rw[Zc (Zv a f7).symm,Zc (Zv a hb6).symm];exact a,c,by simp[Ym],by simp[Ym]⟩ }
 have f60:Zm S b6:=hb6
 have m1:=Zv h.g3 f60
 have m2:=Zv h.gc f60
 have m3:=Zv h.gv f60
 have f6:=h.has.fresh f60
 clear hb6 hb7 hcp
 refine Zp (mu:=[]) (dr:=[(1,8,1),(5,7,8),(12,7,8)]) [9,23,24,25,26,27,28,29,30,31,32,33,34,35,36] (fun x:Nat×AV×AV×Store=>[(23,vi x.1)]) (fun x=>x.2.2.2)
  (fun x=>x.1<=a.length/\CI D b6 b7 k s ts tl w S x.2.1 (.list .full 0 []) (a.take x.1) [] (UB D.K (a.take x.1) acc) x.2.2.1 x.2.2.2) (fun x=>a.length-x.1) (0,_,w,_) xy ⟨by omega,hc0⟩ ⟨.refl _,trivial⟩ (.refl _) ?_
 clear hc0
 rintro⟨i,va,w1,S1⟩ ⟨hi,hc⟩
 dsimp only at hi hc ⊢
 refine uB fun x0=>?_
 by_cases c:i<a.length
 ·have x1:((i:Int)<(a.length:Int))=True:=iS xh
  obtain⟨t,ht⟩:∃ t,a[i]?=some t:=⟨a[i],iO c⟩
  have gt:(cJ a)[i]?=some t.emb:=by rw[cW,jp,ht];rfl
  refine uE fun hw=>?_
  have htk:=SY D.K a i t ht acc
  have hea:cJ (a.take (i+1))=cJ (a.take i)++[t.emb]:=by simp[cW,jh,ht]
  have hb1:=W8 D.K (a.take i) acc
  have hb2:cP (cK (a.take i))+t.shape.nds<=cP (cK a):=by
   have e1:cK (a.take (i+1))=cK (a.take i)++[t.shape]:=by rw[cS,cS,jh,ht];simp
   have e2:=YO (cK a) (i+1)
   have e3:(cK a).take (i+1)=cK (a.take (i+1)):=by rw[cS,cS,jx]
   rw[e3,e1,ZL] at e2
   simpa[cP] using e2
  have hcl:=Cb D t q (UB D.K (a.take i) acc) w1
  obtain⟨kt,nt,zt,lt⟩:=t
  simp only[cO] at hcl gt hea
  refine vG ?_
  intro b9 hb9
  have h3:=hc.cons hb9 (.cells [vi kt,vi nt,vs zt,.list .none 4 (cJ lt)])
  obtain⟨U,hU⟩:∃ U:Store,U=(b9,AObj.cells [vi kt,vi nt,vs zt,.list .none 4 (cJ lt)])::S1:=⟨_,rfl⟩
  have u9:U.get b9=some (.cells [vi kt,vi nt,vs zt,.list .none 4 (cJ lt)]):=by rw[hU];exact Ze _ _ _
  have n9:b9≠D.bc:=(Zv hc.ni.gc hb9).symm
  rw[<- hU] at h3 ⊢
  clear hU hc hb9
  have g7:=h3.g7
  try simp only[go_sem,seval,g7,u9,Nu.cb]
  refine(hcl U h3.ni xh).mono ?_
  rintro r S4 ⟨rfl,w4,h4,t4⟩
  have v9:=(t4 _ _ u9 (by simp[n9]) (h3.ni.lv.notCells u9)).1
  have h5:=h3.step h4 t4
  have g7:=h5.g7
  clear h3 h4 t4 u9
  try simp only[go_sem,seval,g7,v9,hw]
  refine⟨rfl,h5.la.appT rfl xj (by rw[cF,ip];simp only[ij,im];omega) rfl xf h5.ni.has (fun v' S' hv' hT hS'=>?_)⟩
  obtain⟨g',h6⟩:=h5.putA (ea':=a.take (i+1)) (by rw[hea];exact hv') hT hS'
  try simp only[go_sem,seval,g',hv'.one,hv'.cells,hw]
  exact .mk (i+1,v',w4,S'.set b7 (.cells [vi k,vs s,v',vs ts,.list .none 2 (cI tl),.list .full 0 []])) ⟨by omega,by dsimp only;rw[htk];exact h6⟩ xh ⟨.refl _,trivial⟩ yS (.refl _)
 have x1:((i:Int)<(a.length:Int))=False:=iU xh
 rw[show a.take i=a from iW xh] at hc
 have hb1:=W8 D.K a acc
 obtain⟨acc1,hacc1⟩:∃ acc1,acc1=UB D.K a acc:=⟨_,rfl⟩
 rw[<- hacc1] at hc hb1 ⊢
 clear hi hacc1
 try simp only[go_sem,seval,cF,x0,x1,iV]
 refine hqu.use ?_
 cases qu with
 | true =>
   refine uw ?_
   refine Zp (mu:=[]) (dr:=[(1,8,1),(5,7,8),(12,7,8)]) [11,44,45,46,47,48,49,50,51,52,53,54,55,56,57] (fun x:Nat×AV×AV×Store=>[(44,vi x.1)]) (fun x=>x.2.2.2)
    (fun x=>x.1<=l.length/\CI D b6 b7 k s ts tl w S va x.2.1 a (l.take x.1) (SZ D.K (l.take x.1) acc1) x.2.2.1 x.2.2.2) (fun x=>l.length-x.1) (0,_,w1,_) xy ⟨by omega,hc⟩ ⟨.refl _,trivial⟩ (.refl _) ?_
   clear hc x0 x1
   rintro⟨j,vl,w2,S2⟩ ⟨hj,hc⟩
   dsimp only at hj hc ⊢
   refine vy fun x0=>?_
   by_cases c:j<l.length
   ·refine we fun x1=>?_
    obtain⟨t,ht⟩:∃ t,l[j]?=some t:=⟨l[j],iO c⟩
    have gt:(cN l)[j]?=some t.emb:=by rw[dz,jp,ht];rfl
    refine uV fun hw=>?_
    have htk:=Om D.K l j t ht acc1
    have hea:cN (l.take (j+1))=cN (l.take j)++[t.emb]:=by simp[dz,jh,ht]
    have hb3:=Sh D.K (l.take j) acc1
    have hb2:cP (cR (l.take j))+t.shape.nds<=cP (cR l):=by
     exact qD
    have hcl:=ih t (iG ht) (IntKind.i64.wrap (q+1)) (SZ D.K (l.take j) acc1) w2
    exact oC
   ·exact oU
 | false =>
   refine uw ?_
   refine Zp (mu:=[]) (dr:=[(1,8,1),(5,7,8),(12,7,8)]) [11,44,45,46,47,48,49,50,51,52,53,54,55,56,57] (fun x:Nat×AV×AV×Store=>[(44,vi x.1)]) (fun x=>x.2.2.2)
    (fun x=>x.1<=l.length/\CI D b6 b7 k s ts tl w S va x.2.1 a (l.take x.1) (SZ D.K (l.take x.1) acc1) x.2.2.1 x.2.2.2) (fun x=>l.length-x.1) (0,_,w1,_) xy ⟨by omega,hc⟩ ⟨.refl _,trivial⟩ (.refl _) ?_
   clear hc x0 x1
   rintro⟨j,vl,w2,S2⟩ ⟨hj,hc⟩
   dsimp only at hj hc ⊢
   refine vy fun x0=>?_
   by_cases c:j<l.length
   ·refine we fun x1=>?_
    obtain⟨t,ht⟩:∃ t,l[j]?=some t:=⟨l[j],iO c⟩
    have gt:(cN l)[j]?=some t.emb:=by rw[dz,jp,ht];rfl
    refine uV fun hw=>?_
    have htk:=Om D.K l j t ht acc1
    have hea:cN (l.take (j+1))=cN (l.take j)++[t.emb]:=by simp[dz,jh,ht]
    have hb3:=Sh D.K (l.take j) acc1
    have hb2:cP (cR (l.take j))+t.shape.nds<=cP (cR l):=by
     exact qD
    have hcl:=ih t (iG ht) q (SZ D.K (l.take j) acc1) w2
    exact oC
   ·exact oU
theorem K2(K:Int)(f:Fm)(hn:f.shape.nds<=1000000):Pur nC 290 [.agg f.emb,vi K] (.list .none 1 (Zu (nuF K f []))):=by
 intro σ
 refine Zh.nodup xy (fun hnd=>?_)
 have hch:=fun b3 bc bv w S h=>Gi ⟨σ,K,b3,bc,bv⟩ f 0 [] w S h (by simpa using hn)
 dsimp only at hch
 generalize nuF K f []=out at hch ⊢
 obtain⟨k,s,a,⟨ts,tl⟩,l⟩:=f
 simp only[cM] at hch ⊢
 refine Zb [3] [] Tryz.func290 rfl xy ?_;rw[Tryz.ntmps290,Tryz.results290]
 refine uw ?_
 intro b3 hb3
 refine uw ?_
 intro b5 hb5 b6 hb6
 refine uw ?_
 have f3:Zm σ b3:=hb3
 have f5:Zm σ b5:=hb5.2
 have f6:Zm σ b6:=hb6.2.2
 have n35:b3≠b5:=hb5.1
 have n56:b5≠b6:=hb6.1
 have n36:b3≠b6:=hb6.2.1
 refine(hch b3 b5 b6 (.list .full 0 []) _ { g3:=by dsimp only;rw[Zc n36.symm,Zc n35.symm];exact Ze _ _ _,gc:=by dsimp only;rw[Zc n56.symm];exact Ze _ _ _,gv:=Ze _ _ _,lv:=LV.nil _ _ _,has:=(((Has.refl σ).cons _).cons _).cons _,n3:=n35,nv:=n56.symm,fc:=f5 }).mono ?_
 rintro r S' ⟨rfl,w,hN,-⟩
 have gc:=hN.gc
 have hl:=hN.lv
 dsimp only at gc hl
 try simp only[go_sem,seval,gc,hl.one,hl.cells]
 exact .mk hl.wk (hN.has.sub hnd) ⟨rfl,rfl⟩
end Go.Vx
end
