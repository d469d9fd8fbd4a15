/- A part of the proof of clausalSpinesProved. -/
import Derived.Test.YtllgjklcpieanaaGreatDoorR19
import Derived.Test.YtllgjklcpieanaaGreatDoorR14
import Derived.Test.YtllgjklcpieanaaGreatDoorR24
set_option linter.unusedVariables false
set_option linter.unusedSimpArgs false
set_option maxRecDepth 100000
section
namespace Go.Vx
open Go.Proofs
theorem CH(l:List Nt)(g:nL)(nm:Nt->Str)(hl:l.length<=1000000)(hg:∀ a∈l,Pur nC g [.agg a.emb] (vs (nm a)))(σ:Store) :
 Zh nC 275 [.list .none 3 (cZ l),.val (.func (.func g) #[] #[])] σ (fun r S=>∃ v,r=.ret v/\LV σ S v 1 (ZX (l.map nm))/\Has σ S):=by
 refine Zb [] [] Tryz.func275 rfl xy ?_;rw[Tryz.ntmps275,Tryz.results275]
 exact tI
theorem CG(l:List Nt)(g:nL)(nm:Nt->Str)(hl:l.length<=1000000)(hg:∀ a∈l,Pur nC g [.agg a.emb] (vs (nm a)))(σ:Store) :
 Zh nC 287 [.list .none 3 (cZ l),.val (.func (.func g) #[] #[])] σ (fun r S=>∃ v,r=.ret v/\LV σ S v 1 (ZX (l.map nm))/\Has σ S):=by
 refine Zb [] [] Tryz.func287 rfl xy ?_;rw[Tryz.ntmps287,Tryz.results287]
 exact tI
theorem CF(l:List Pd)(g:nL)(nm:Pd->Str)(hl:l.length<=1000000)(hg:∀ a∈l,Pur nC g [.agg a.emb] (vs (nm a)))(σ:Store) :
 Zh nC 277 [.list .none 4 (df l),.val (.func (.func g) #[] #[])] σ (fun r S=>∃ v,r=.ret v/\LV σ S v 1 (ZX (l.map nm))/\Has σ S):=by
 refine Zb [] [] Tryz.func277 rfl xy ?_;rw[Tryz.ntmps277,Tryz.results277]
 refine uw ?_
 refine Zp (mu:=[]) (dr:=[]) [5,7,10,11,12,13,14,15,16,17,18,19,20] (fun x:Nat×AV×Store=>[(10,vi x.1),(5,x.2.1)]) (fun x=>x.2.2)
  (fun x=>x.1<=l.length/\LV σ x.2.2 x.2.1 1 (ZX ((l.take x.1).map nm))/\Has σ x.2.2) (fun x=>l.length-x.1) (0,.list .full 0 [],σ) xy ⟨by simp,LV.nil _ _ _,.refl _⟩ ⟨.refl _,.refl _,trivial⟩ (.refl _) ?_
 rintro⟨i,v,S⟩ ⟨hi,iL,iH⟩
 dsimp only at hi iL iH
 by_cases hi2:(i:Int)<(l.length:Int)
 ·have x1:=iS hi2
  refine uB fun x0=>?_
  refine uG fun a ha=>?_
  have g0:(df l)[i]?=some a.emb:=by rw[df,jp,ha];rfl
  refine uz fun w3=>?_
  have hc:=hg a (iG ha)
  have e1:ZX ((l.take (i+1)).map nm)=ZX ((l.take i).map nm)++[[vs (nm a)]]:=by
   rw[jh,ha,jj];simp[ZX]
  generalize nm a=sn at hc e1
  obtain⟨sa,ta,ka,ma⟩:=a
  simp only[Pd.emb] at g0 hc
  try simp only[go_sem,seval,dC,x0,x1,g0,iT,iF,jq,jr,jt,iL.one,iL.cells]
  exact oq
 ·have x1:=iU hi2
  have e:l.take i=l:=iW xh
  rw[e] at iL
  try simp only[go_sem,seval,dC,x1,iV,iL.one,iL.cells]
  exact ri
theorem CD(l:List Rl)(g:nL)(nm:Rl->Str)(hl:l.length<=1000000)(hg:∀ a∈l,Pur nC g [.agg a.emb] (vs (nm a)))(σ:Store) :
 Zh nC 246 [.list .none 8 (dx l),.val (.func (.func g) #[] #[])] σ (fun r S=>∃ v,r=.ret v/\LV σ S v 1 (ZX (l.map nm))/\Has σ S):=by
 refine Zb [] [] Tryz.func246 rfl xy ?_;rw[Tryz.ntmps246,Tryz.results246]
 refine uw ?_
 refine Zp (mu:=[]) (dr:=[]) [5,7,10,11,12,13,14,15,16,17,18,19,20] (fun x:Nat×AV×Store=>[(10,vi x.1),(5,x.2.1)]) (fun x=>x.2.2)
  (fun x=>x.1<=l.length/\LV σ x.2.2 x.2.1 1 (ZX ((l.take x.1).map nm))/\Has σ x.2.2) (fun x=>l.length-x.1) (0,.list .full 0 [],σ) xy ⟨by simp,LV.nil _ _ _,.refl _⟩ ⟨.refl _,.refl _,trivial⟩ (.refl _) ?_
 rintro⟨i,v,S⟩ ⟨hi,iL,iH⟩
 dsimp only at hi iL iH
 by_cases hi2:(i:Int)<(l.length:Int)
 ·have x1:=iS hi2
  refine uB fun x0=>?_
  refine uG fun a ha=>?_
  have g0:(dx l)[i]?=some a.emb:=by rw[dx,jp,ha];rfl
  refine uz fun w3=>?_
  have hc:=hg a (iG ha)
  have e1:ZX ((l.take (i+1)).map nm)=ZX ((l.take i).map nm)++[[vs (nm a)]]:=by
   rw[jh,ha,jj];simp[ZX]
  generalize nm a=sn at hc e1
  obtain⟨sa,⟨ka,na,la,⟨xa,xl⟩,fa⟩,ua⟩:=a
  simp only[dZ] at g0 hc
  try simp only[go_sem,seval,du,x0,x1,g0,iT,iF,jq,jr,jt,iL.one,iL.cells]
  exact oq
 ·have x1:=iU hi2
  have e:l.take i=l:=iW xh
  rw[e] at iL
  try simp only[go_sem,seval,du,x1,iV,iL.one,iL.cells]
  exact ri
theorem CE(l:List Qy)(g:nL)(nm:Qy->Str)(hl:l.length<=1000000)(hg:∀ a∈l,Pur nC g [.agg a.emb] (vs (nm a)))(σ:Store) :
 Zh nC 248 [.list .none 8 (dy l),.val (.func (.func g) #[] #[])] σ (fun r S=>∃ v,r=.ret v/\LV σ S v 1 (ZX (l.map nm))/\Has σ S):=by
 refine Zb [] [] Tryz.func248 rfl xy ?_;rw[Tryz.ntmps248,Tryz.results248]
 refine uw ?_
 refine Zp (mu:=[]) (dr:=[]) [5,7,10,11,12,13,14,15,16,17,18,19,20] (fun x:Nat×AV×Store=>[(10,vi x.1),(5,x.2.1)]) (fun x=>x.2.2)
  (fun x=>x.1<=l.length/\LV σ x.2.2 x.2.1 1 (ZX ((l.take x.1).map nm))/\Has σ x.2.2) (fun x=>l.length-x.1) (0,.list .full 0 [],σ) xy ⟨by simp,LV.nil _ _ _,.refl _⟩ ⟨.refl _,.refl _,trivial⟩ (.refl _) ?_
 rintro⟨i,v,S⟩ ⟨hi,iL,iH⟩
 dsimp only at hi iL iH
 by_cases hi2:(i:Int)<(l.length:Int)
 ·have x1:=iS hi2
  refine uB fun x0=>?_
  refine uG fun a ha=>?_
  have g0:(dy l)[i]?=some a.emb:=by rw[dy,jp,ha];rfl
  refine uz fun w3=>?_
  have hc:=hg a (iG ha)
  have e1:ZX ((l.take (i+1)).map nm)=ZX ((l.take i).map nm)++[[vs (nm a)]]:=by
   rw[jh,ha,jj];simp[ZX]
  generalize nm a=sn at hc e1
  obtain⟨sa,va,⟨ka,na,la,⟨xa,xl⟩,fa⟩⟩:=a
  simp only[dX] at g0 hc
  try simp only[go_sem,seval,dA,x0,x1,g0,iT,iF,jq,jr,jt,iL.one,iL.cells]
  exact oq
 ·have x1:=iU hi2
  have e:l.take i=l:=iW xh
  rw[e] at iL
  try simp only[go_sem,seval,dA,x1,iV,iL.one,iL.cells]
  exact ri
open Go.Proofs Go.RowKit
theorem JS.sees{D:Jd}{vars:List Nt}{e:nM Nat}{env:List Plc}{S S':Store}(h:JS D vars e env S)(hs:Xl S S')(hH:Has S S'):JS D vars e env S':=by
 obtain⟨v,va,g,hv,hva⟩:=h.gj
 refine{ h with gj:=⟨v,va,hs _ _ g,?_,hva⟩,g0:=hs _ _ h.g0,g1:=hs _ _ h.g1,g2:=hs _ _ h.g2,has:=fun p hp=>hH p (h.has p hp) }
 rcases hv with q|⟨b,cap,rest,q1,q2,q3,q4⟩
 ·exact .inl q
 ·exact .inr ⟨b,cap,rest,q1,q2,hs _ _ q3,q4⟩
theorem Stp.sees{jb:Nat}{e:nM Nat}{S S':Store}(hs:Xl S S'):Stp jb e e S S' :=
 ⟨fun k x h _ _=>hs _ _ h,.inl rfl,fun k hk=>by
  cases h:S.get k with
  | none=>rw[h] at hk;cases hk
  | some x=>rw[hs _ _ h];rfl⟩
def RZW(S0:Store)(Z W:AObj)(S S':Store):Prop:=(∀ k,Zm S0 k->(S.get k=some Z->S'.get k=some Z\/S'.get k=some W)/\(S.get k=some W->S'.get k=some W))
theorem RZW.refl(S0:Store)(Z W:AObj)(S:Store):RZW S0 Z W S S:=fun k _=>⟨.inl,id⟩
theorem RZW.cons{S0:Store}{Z W:AObj}{S:Store}{b:Nat}(hb:Zm S b)(x:AObj):RZW S0 Z W S ((b,x)::S):=fun k _ =>
 ⟨fun h=>.inl (by rw[Zg hb (by rw[h];rfl)];exact h),fun h=>by rw[Zg hb (by rw[h];rfl)];exact h⟩
theorem RZW.set{S0:Store}{Z W:AObj}{S:Store}{b:Nat}:RZW S0 Z W S (S.set b W):=fun k _=>by
 refine⟨fun h=>?_,fun h=>?_⟩
 ·by_cases e:k=b
  ·subst e;exact .inr (Zd h)
  ·exact .inl (by rw[Za e];exact h)
 ·by_cases e:k=b
  ·subst e;exact Zd h
  ·rw[Za e];exact h
def zP:AObj:=.cells [.val (.string { data:=#[] }),.list .full 0 [],.val (.int .i64 0),.list .full 0 []]
def wP(o:nM Pd):AObj:=match o with|some d=>.cells d.emb|none=>zP
def wA(o:nM Pd):AV:=match o with|some d=>.agg d.emb|none=>.agg [.val (.string { data:=#[] }),.list .full 0 [],.val (.int .i64 0),.list .full 0 []]
theorem EI(D:Jd)(vars:List Nt)(hv:vars.length<1000000)(hP:∀ s d,D.pP s=some d->∀ u∈d.types,u.shape.dpN<=1000):∀ f:Fm,FmC D vars f:=by
 intro f
 induction f using eg with|h k s a ty l ih=>?_
 intro left e env S h hT hF hd
 refine Zh.ok xy (fun hok=>?_)
 obtain⟨ts,tl⟩:=ty
 have hlena:=(((hok (.agg (Fm.mk k s a (.mk ts tl) l).emb) xf).agg (c:=.list .none 4 (cJ a)) xt).len)
 have hlenl:=(((hok (.agg (Fm.mk k s a (.mk ts tl) l).emb) xf).agg (c:=.list .none 6 (cN l)) xt).len)
 rw[cF] at hlena
 rw[cU] at hlenl
 clear hok
 have hfm:fmS D.hasT D.cT D.pP vars left env (.mk k s a (.mk ts tl) l)=if(ZQ k).2=false\/¬ (l.length:Int)=(ZQ k).1 then false
  else if k=1 then decide (ts={ data:=#[] })&&decide (tl.length=0)&&(match D.pP s with
   | none=>false
   | some d=>decide (d.types.length=a.length)&&YM D.cT vars env a d.types)
  else if k=10\/k=11 then decide (a.length=0)&&(ZC 1 s || ZC 2 s)&&YN D.hasT (.mk ts tl)&&(!(decide (k=10) == left) || VA (.mk ts tl))&&fm1 D.hasT D.cT D.pP vars left (env++[⟨.mk ts tl,decide (k=10) == left⟩]) l
  else decide (ts={ data:=#[] })&&decide (tl.length=0)&&decide (a.length=0)&&decide (s={ data:=#[] })&&VM D.hasT D.cT D.pP vars left env (decide (k=7\/k=8)) l:=by
  simp only[fmS];cases D.pP s<;>rfl
 rw[hfm]
 simp only[cM]
 refine Zb [3,4,5] [(8,1000,0),(14,7,0)] Tryz.func250 rfl xy ?_;rw[Tryz.ntmps250,Tryz.results250]
 refine uw ?_
 intro b3 hb3 b4 hb4 b5 hb5
 have j3:=h.cons hb3 (.cells [.val (.pointer (some ⟨D.jb,0,none⟩))])
 have j4:=j3.cons hb4 (.cells [.val (.int .i64 k),.val (.string s),.list .none 4 (cJ a),.val (.string ts),.list .none 2 (cI tl),.list .none 6 (cN l)])
 have j5:=j4.cons hb5 (.cells [.val (.bool left)])
 have s5:=((Stp.cons (jb:=D.jb) (e:=e) hb3 (.cells [.val (.pointer (some ⟨D.jb,0,none⟩))])).trans (.cons hb4 (.cells [.val (.int .i64 k),.val (.string s),.list .none 4 (cJ a),.val (.string ts),.list .none 2 (cI tl),.list .none 6 (cN l)]))).trans (.cons hb5 (.cells [.val (.bool left)]))
 have n43:=hb4.1
 have n53:=hb5.2.1
 have n54:=hb5.1
 have m43:=iC n43
 have m53:=iC n53
 have m54:=iC n54
 obtain⟨a3,c3⟩:=h.ne hb3
 obtain⟨a4,c4⟩:=j3.ne hb4
 obtain⟨a5,c5⟩:=j4.ne hb5
 obtain⟨S5,hS5⟩:∃ S5:Store,S5=(b5,AObj.cells [AV.val (Value.bool left)])::(b4,AObj.cells [AV.val (Value.int IntKind.i64 k),AV.val (Value.string s),AV.list Rt.none 4 (cJ a),AV.val (Value.string ts),AV.list Rt.none 2 (cI tl),AV.list Rt.none 6 (cN l)])::(b3,AObj.cells [AV.val (Value.pointer (some { block:=D.jb,off:=0 }))])::S:=⟨_,rfl⟩
 rw[<- hS5] at j5 s5 ⊢
 have g5:S5.get b5=some (AObj.cells [AV.val (Value.bool left)]):=by rw[hS5,Ze]
 have g4:S5.get b4=some (AObj.cells [AV.val (Value.int IntKind.i64 k),AV.val (Value.string s),AV.list Rt.none 4 (cJ a),AV.val (Value.string ts),AV.list Rt.none 2 (cI tl),AV.list Rt.none 6 (cN l)]):=by rw[hS5,Zc m54,Ze]
 have g3:S5.get b3=some (AObj.cells [AV.val (Value.pointer (some { block:=D.jb,off:=0 }))]):=by rw[hS5,Zc m53,Zc m43,Ze]
 clear j3 j4 hb3 hb4 hb5 hS5
 try simp only[go_sem,seval,g4]
 refine(GU k).use ?_
 generalize hpk:ZQ k=pn
 obtain⟨pn,pb⟩:=pn
 try simp only[go_sem,seval,g4]
 cases pb with
 | false =>
   exact oO
 | true =>
 by_cases hpn:(l.length:Int)=pn
 ·rw[ig (by simp[hpn])]
  have x1:=iS hpn
  try simp only[go_sem,seval,g4,cU,x1,iT,iV]
  by_cases k1:k=1
  ·rw[gZ k1]
   have y1:=iS k1
   have y10:(k=10)=False:=iU xh
   have y11:(k=11)=False:=iU xh
   by_cases t0:ts={ data:=#[] }
   ·have y2:=iS t0
    by_cases t1:tl.length=0
    ·have y3:((tl.length:Int) > 0)=False:=iU xh
     have hw:(decide (ts={ data:=#[] })&&decide (tl.length=0)&&(match D.pP s with
      | none=>false
      | some d=>decide (d.types.length=a.length)&&YM D.cT vars env a d.types))=(match D.pP s with
      | none=>false
      | some d=>decide (d.types.length=a.length)&&YM D.cT vars env a d.types):=by rw[jy t0,jy t1];rfl
     rw[hw]
     try simp only[go_sem,seval,g4,cG,y1,y10,y11,y2,y3,iT,iV]
     obtain⟨v0,va0,gj,hV,hva⟩:=j5.gj
     have hlk:Z3 D.mp s=(D.pP s).map fun d=>.agg d.emb:=h.lp s
     have tm:=bR
     have tst:=AW
     have tz:=cq
     refine .seq (eR [] 13 [72,73,74,75,76,77,78,71,79,80,10,11] [(72,[]),(73,[(0,72)]),(74,[(1,73)]),(75,[(2,74)]),(76,[]),(77,[(4,76)]),(78,[(3,75),(5,77)]),(71,[(6,78)]),(79,[(7,71)]),(80,[(7,71)]),(10,[]),(10,[(8,79),(10,10)]),(11,[(9,80)])] [(10,10),(11,10),(12,11)] (fun i v S=>match i with
      | 0=>v=.val (.pointer (some ⟨D.jb,0,none⟩))
      | 1=>v=.val (.pointer (some ⟨D.jb,0,none⟩))
      | 2=>v=.val (.pointer (some ⟨D.jb,2,none⟩))
      | 3=>v=.val (.map (some D.r2))
      | 4=>v=.val (.pointer (some ⟨b4,1,none⟩))
      | 5=>v=vs s
      | 6=>v=.tup [wA (D.pP s),vb (D.pP s).isSome]
      | 7=>v=.tup [wA (D.pP s),vb (D.pP s).isSome]
      | 8=>v=wA (D.pP s)
      | 9=>v=vb (D.pP s).isSome
      | 10=>∃ b,v=.val (.pointer (some ⟨b,0,none⟩))/\Zm S5 b/\(S.get b=some zP\/S.get b=some (wP (D.pP s)))
      | 11=>∃ b,v=.val (.pointer (some ⟨b,0,none⟩))/\Zm S5 b/\S.get b=some (wP (D.pP s))
      | _=>v=vb (D.pP s).isSome) (RZW S5 zP (wP (D.pP s))) (fun S=>Xl S5 S/\Has S5 S) xy xy ?_ ⟨.refl _,.refl _⟩ ?_ ?_)
     ·intro i v S S' hR h
      match i,h with
      | 0,h=>exact h
      | 1,h=>exact h
      | 2,h=>exact h
      | 3,h=>exact h
      | 4,h=>exact h
      | 5,h=>exact h
      | 6,h=>exact h
      | 7,h=>exact h
      | 8,h=>exact h
      | 9,h=>exact h
      | 10,⟨b,h1,h2,h3⟩=>exact⟨b,h1,h2,h3.elim (hR b h2).1 (fun h=>.inr ((hR b h2).2 h))⟩
      | 11,⟨b,h1,h2,h3⟩=>exact⟨b,h1,h2,(hR b h2).2 h3⟩
      | _+12,h=>exact h
     ·refine wZ ?_
      refine⟨?_,?_,?_,?_,?_,?_,?_,?_,?_,?_,?_,?_,?_,trivial⟩
      ·rintro fr S hk hG -
       have q3:fr 3=.val (.pointer (some ⟨b3,0,none⟩)):=hk 3 rfl
       try simp only[go_sem,seval,q3,hG.1 _ _ g3]
       exact qR
      ·rintro fr S hk hG ⟨h0,-⟩
       refine wM ?_
       exact qR
      ·rintro fr S hk hG ⟨h0,-⟩
       refine wM ?_
       exact qR
      ·rintro fr S hk hG ⟨h0,-⟩
       try simp only[go_sem,seval,h0,hG.1 _ _ gj]
       exact qR
      ·rintro fr S hk hG -
       refine wV fun q4=>?_
       try simp only[go_sem,seval,q4]
       exact qR
      ·rintro fr S hk hG ⟨h0,-⟩
       try simp only[go_sem,seval,h0,hG.1 _ _ g4]
       exact qR
      ·rintro fr S hk hG ⟨h3,h5,-⟩
       try simp only[go_sem,seval,h3,h5]
       refine Tg tm tst tz (hG.1 _ _ j5.g2) ?_
       rw[FP,WW,hlk]
       cases hp:D.pP s with
       | none=>exact And.intro (RZW.refl _ _ _ _) ⟨hG,rfl⟩
       | some d=>exact And.intro (RZW.refl _ _ _ _) ⟨hG,rfl⟩
      ·rintro fr S hk hG ⟨h6,-⟩
       try simp only[go_sem,seval,h6]
       exact qR
      ·rintro fr S hk hG ⟨h7,-⟩
       try simp only[go_sem,seval,h7]
       exact qR
      ·rintro fr S hk hG ⟨h7,-⟩
       try simp only[go_sem,seval,h7]
       exact qR
      ·rintro fr S hk hG -
       refine uw ?_
       intro b hb
       exact⟨.cons hb _,⟨hG.1.trans (.cons hb _),hG.2.cons _⟩,b,rfl,hG.2.fresh hb,.inl (Ze _ _ _)⟩
      ·rintro fr S hk hG ⟨h8,⟨b,h10,hf,hb⟩,-⟩
       obtain⟨cs,hcs,hl⟩:∃ cs,S.get b=some (.cells cs)/\cs.length=4:=by
        rcases hb with h|h
        ·exact⟨_,h,rfl⟩
        ·cases hp:D.pP s with
         | none=>rw[hp] at h;exact⟨_,h,rfl⟩
         | some d=>rw[hp] at h;exact⟨_,h,rfl⟩
       have hdr:List.drop 4 cs=[]:=jD xh
       have fin:∀ o,D.pP s=o->RZW S5 zP (wP o) S (S.set b (wP o))/\(Xl S5 (S.set b (wP o))/\Has S5 (S.set b (wP o)))/\∃ b',AV.val (.pointer (some ⟨b,0,none⟩))=.val (.pointer (some ⟨b',0,none⟩))/\Zm S5 b'/\(if b'=b then some (wP o) else S.get b')=some (wP o):=fun o _ =>
        ⟨.set,⟨fun k x hx=>by rw[Za (fun q=>by rw[q,YJ.1 hf] at hx;cases hx)];exact hG.1 _ _ hx,hG.2.set hf _⟩,b,rfl,hf,gZ rfl⟩
       cases hp:D.pP s with
       | none =>
         have:=fin none hp
         rw[hp] at h8
         simp only[wA] at h8
         try simp only[go_sem,seval,h8,h10,hcs,hl,hdr,kh]
         exact this
       | some d =>
         have:=fin (some d) hp
         rw[hp] at h8
         obtain⟨dn,dt,dk,dm⟩:=d
         simp only[wA,Pd.emb] at h8
         try simp only[go_sem,seval,h8,h10,hcs,hl,hdr,kh]
         exact this
      ·rintro fr S hk hG ⟨h9,-⟩
       try simp only[go_sem,seval,h9]
       exact qR
     rintro fr S6 hk ⟨hG1,hG2⟩ ⟨-,⟨b,h10,hfb,gb⟩,h11',-⟩
     have h11:fr 11=vb (D.pP s).isSome:=h11'
     clear h11'
     have q3:fr 3=.val (.pointer (some ⟨b3,0,none⟩)):=hk 3 rfl
     refine wV fun q4=>?_
     obtain⟨ab,cb⟩:=j5.ne hfb
     have j6:=j5.sees hG1 hG2
     have s6:=s5.trans (.sees hG1)
     replace g3:=hG1 _ _ g3
     replace g4:=hG1 _ _ g4
     clear hk hG1 hG2 j5 s5 g5 gj
     show V9 _ _ .normal fr S6
     simp only[V9]
     refine Zn (mu:=[3,4,5]) (dr:=[(8,1000,0),(14,7,0)]) xy _ xy _ _ _ ?_
     have hPs:=hP s
     generalize D.pP s=op at hPs gb h11 ⊢
     cases op with
     | none =>
       try simp only[go_sem,seval,h11,mb,jB]
       exact .mk (.refl _) (.refl _) ⟨rfl,e,j6,s6⟩
     | some d =>
       have hdt:=hPs d rfl
       obtain⟨dn,L,dk,dm⟩:=d
       simp only[wP,Pd.emb] at gb hdt
       dsimp only
       by_cases c1:L.length=a.length
       ·have y5:((L.length:Int)=(a.length:Int))=True:=iS xh
        have hw2:(decide (L.length=a.length)&&YM D.cT vars env a L)=YM D.cT vars env a L:=by rw[jy c1];rfl
        rw[hw2]
        try simp only[go_sem,seval,h10,h11,q4,gb,g4,y5,mH,jA,cG,cF,iT]
        refine Zp (mu:=[]) (dr:=[(8,1000,0),(14,7,0)]) [6,12,13,95,96,97,98,99,100,101,102,103,104,105,106,107,108,109] (fun x:Nat×nM Nat×Store=>[(95,vi x.1)]) (fun x=>x.2.2)
         (fun x=>x.1<=a.length/\JS D vars x.2.1 env x.2.2/\Stp D.jb e x.2.1 S6 x.2.2/\YM D.cT vars env a L=YM D.cT vars env (a.drop x.1) (L.drop x.1)) (fun x=>a.length-x.1) (0,e,S6) xy ⟨by simp,j6,.refl _ _ _,by simp⟩ ⟨.refl _,trivial⟩ (.refl _) ?_
        rintro⟨i,ei,Si⟩ ⟨hi,ji,si,hx⟩
        dsimp only at hi ji si hx
        by_cases hi2:(i:Int)<(a.length:Int)
        ·have x1':=iS hi2
         refine uB fun x0=>?_
         obtain⟨c,hc⟩:∃ c,a[i]?=some c:=⟨a[i]' xh,iO xh⟩
         obtain⟨u,hu⟩:∃ u,L[i]?=some u:=⟨L[i]' xh,iO xh⟩
         have ga:(cJ a)[i]?=some c.emb:=by rw[cW,jp,hc];rfl
         have gu:(cI L)[i]?=some u.emb:=by rw[di,jp,hu];rfl
         refine uz fun w3=>?_
         have x2':((i:Int)<(L.length:Int))=True:=iS xh
         rw[drop_at hc,drop_at hu] at hx
         have hk:=fY (k:=k) (s:=s) (t:=.mk ts tl) (l:=l) (iG hc)
         have iha:=fun S' (hJ:JS D vars ei env S')=>Af D vars hv c u ei env S' hJ hT (hdt u (iG hu)) xh
         have hx':YM D.cT vars env a L=(tmS D.cT vars env c u&&YM D.cT vars env (a.drop (i+1)) (L.drop (i+1))):=by rw[hx];rfl
         generalize tmS D.cT vars env c u=q5 at iha hx'
         obtain⟨ka,na,sa,la⟩:=c
         obtain⟨su,lu⟩:=u
         simp only[cO,cQ] at ga gu iha
         have k3:=si.keep _ _ g3 a3 c3
         have kb:=si.keep _ _ gb ab cb
         try simp only[go_sem,seval,cF,x0,x1',ga,iT,iF,jq,jr,jt]
         intro b14 hb14
         have j14:=ji.cons hb14 (.cells [.val (.int .i64 ka),.val (.int .i64 na),.val (.string sa),.list .none 4 (cJ la)])
         have n14:b14≠b3:=ZI hb14 k3
         have n15:b14≠b:=ZI hb14 kb
         try simp only[go_sem,seval,cG,x0,x2',gu,q3,h10,k3,kb,n14,n15,iC n14,iC n15,iT,iF,jq,jr,jt]
         refine(iha _ j14).mono ?_
         rintro r S' ⟨rfl,e',hJ',hS'⟩
         have st':=(si.trans (.cons hb14 _)).trans hS'
         cases q5 with
         | false =>
           refine uw ?_
           exact .mk (.refl _) (.refl _) ⟨by rw[hx'];rfl,e',hJ',s6.trans st'⟩
         | true =>
           refine vF ?_
           exact .mk (i+1,e',S') ⟨by dsimp only;omega,hJ',st',by rw[hx'];rfl⟩ xX ⟨.refl _,trivial⟩ yS (.refl _)
        ·have x1':=iU hi2
         have hq:YM D.cT vars env a L=true:=by rw[hx,jD xh];cases L.drop i<;>rfl
         rw[hq]
         try simp only[go_sem,seval,cF,x1',iV]
         exact .mk (.refl _) (.refl _) ⟨rfl,ei,ji,s6.trans si⟩
       ·have y5:((L.length:Int)=(a.length:Int))=False:=iU xh
        try simp only[go_sem,seval,h10,h11,q4,gb,g4,y5,mH,jA,cG,cF,iV]
        exact .mk (.refl _) (.refl _) ⟨by rw[jY c1];rfl,e,j6,s6⟩
    ·exact ue
   ·have y2:=iU t0
    try simp only[go_sem,seval,g4,cG,y1,y10,y11,y2,iT,iV]
    exact pf
  ·rw[ig k1]
   have y1:=iU k1
   by_cases kq:k=10\/k=11
   ·rw[gZ kq]
    by_cases al:a.length=0
    ·have y4:((a.length:Int) > 0)=False:=iU xh
     have hch:=hF.ty kq
     obtain⟨hv1,_⟩:=O4 (.mk ts tl)
     have hvc:=So (.mk ts tl) xh
     obtain⟨v0,va0,gj,hV,hva⟩:=j5.gj
     have htc:=QP D.jb D.r0 _ _ _ _ D.mt j5.lt.1 S5 gj j5.g0 (.mk ts tl)
     have hfe:(fun s=>(Z3 D.mt s).isSome)=D.hasT:=funext j5.lt.2
     rw[hfe] at htc
     rw[jy al,jz]
     have hp1:pn=1:=by rcases kq with rfl|rfl<;>(simp[ZQ] at hpk;omega)
     have hl1:l.length=1:=by omega
     obtain⟨x,rfl⟩:∃ x,l=[x]:=by
      match l,hl1 with
      | [x],_=>exact⟨x,rfl⟩
     have hwi:=fun(ch:Bool)=>Oz D vars e env ⟨.mk ts tl,ch⟩ S5 (.func (.func 286) #[] #[.pointer (some ⟨b3,0,none⟩),.pointer (some ⟨b4,0,none⟩),.pointer (some ⟨b5,0,none⟩)]) (fmS D.hasT D.cT D.pP vars left (env++[⟨.mk ts tl,ch⟩]) x) j5 xh
      (fun e1 S1 hJ hS=>by rw[Z4];exact(C9 D vars b3 b4 b5 k s a (.mk ts tl) x left (ih x xf) e1 _ S1 hJ (hT.push hch) (hF.kid xf) (by
       have:=Fm.dp_kid (k:=k) (s:=s) (a:=a) (t:=.mk ts tl) (l:=[x]) (x:=x) xf
       rw[ii];simp only[ij,im];omega) (hS.keep _ _ g3 a3 c3) (hS.keep _ _ g4 a4 c4) (hS.keep _ _ g5 a5 c5)))
     have e3:∀ ch,fm1 D.hasT D.cT D.pP vars left (env++[⟨.mk ts tl,ch⟩]) [x]=fmS D.hasT D.cT D.pP vars left (env++[⟨.mk ts tl,ch⟩]) x:=fun _=>rfl
     simp only[e3]
     simp only[eE] at hwi
     have hac:=AM s
     generalize(ZC 1 s || ZC 2 s)=qn at hac ⊢
     generalize YN D.hasT (.mk ts tl)=qt at htc ⊢
     generalize VA (.mk ts tl)=qv at hvc ⊢
     simp only[cQ] at hvc htc
     rcases kq with rfl|rfl
     ·cases left with
      | true =>
        have hde:(decide ((10:Int)=10) == true)=true:=rfl
        rw[hde]
        try simp only[go_sem,seval,g4,g5,cG,cF,y1,y4,iT]
        exact tO
      | false =>
        have hde:(decide ((10:Int)=10) == false)=false:=rfl
        rw[hde]
        try simp only[go_sem,seval,g4,g5,cG,cF,y1,y4,iT]
        exact tU
     ·cases left with
      | true =>
        have hde:(decide ((11:Int)=10) == true)=false:=rfl
        rw[hde]
        try simp only[go_sem,seval,g4,g5,cG,cF,y1,y4,iT,iV]
        exact tU
      | false =>
        have hde:(decide ((11:Int)=10) == false)=true:=rfl
        rw[hde]
        try simp only[go_sem,seval,g4,g5,cG,cF,y1,y4,iT,iV]
        exact tO
    ·have y4:((a.length:Int) > 0)=True:=iS xh
     rcases kq with rfl|rfl
     ·try simp only[go_sem,seval,g4,cG,cF,y1,y4,iT,iV]
      exact pf
     ·try simp only[go_sem,seval,g4,cG,cF,y1,y4,iT,iV]
      exact pf
   ·rw[ig kq]
    have y10:(k=10)=False:=iU (fun q=>kq (.inl q))
    have y11:(k=11)=False:=iU (fun q=>kq (.inr q))
    by_cases t0:ts={ data:=#[] }
    ·have y2:=iS t0
     by_cases t1:tl.length=0
     ·have y3:((tl.length:Int) > 0)=False:=iU xh
      by_cases al:a.length=0
      ·have y4:((a.length:Int) > 0)=False:=iU xh
       by_cases s0:s={ data:=#[] }
       ·have y5:=iS s0
        have hw:(decide (ts={ data:=#[] })&&decide (tl.length=0)&&decide (a.length=0)&&decide (s={ data:=#[] })&&VM D.hasT D.cT D.pP vars left env (decide (k=7\/k=8)) l)=VM D.hasT D.cT D.pP vars left env (decide (k=7\/k=8)) l:=by rw[jy t0,jy t1,jy al,jy s0];rfl
        rw[hw]
        try simp only[go_sem,seval,g4,cG,cF,y1,y10,y11,y2,y3,y4,y5,iT,iV]
        generalize htb:decide (k=7\/k=8)=tb
        refine Zp (mu:=[]) (dr:=[(8,1000,0),(14,7,0)]) [6,15,16,17,151,152,153,154,155,156,157,158,159,160,161,162,163,164,165,166,167,168,169,170,171,172,173,174,175] (fun x:Nat×nM Nat×Store=>[(151,vi x.1)]) (fun x=>x.2.2)
         (fun x=>x.1<=l.length/\JS D vars x.2.1 env x.2.2/\Stp D.jb e x.2.1 S5 x.2.2/\VM D.hasT D.cT D.pP vars left env (tb) l=VM D.hasT D.cT D.pP vars left env (decide (x.1=0)&&tb) (l.drop x.1)) (fun x=>l.length-x.1) (0,e,S5) xy ⟨by simp,j5,.refl _ _ _,by simp⟩ ⟨.refl _,trivial⟩ (.refl _) ?_
        rintro⟨i,ei,Si⟩ ⟨hi,ji,si,hx⟩
        dsimp only at hi ji si hx
        by_cases hi2:(i:Int)<(l.length:Int)
        ·have x1':=iS hi2
         refine uB fun x0=>?_
         obtain⟨c,hc⟩:∃ c,l[i]?=some c:=⟨l[i]' xh,iO xh⟩
         have gc:(cN l)[i]?=some c.emb:=by rw[dz,jp,hc];rfl
         refine uz fun w3=>?_
         rw[drop_at hc] at hx
         have hk:=Fm.dp_kid (k:=k) (s:=s) (a:=a) (t:=.mk ts tl) (iG hc)
         have iha:=fun S' (hJ:JS D vars ei env S')=>ih c (iG hc) (left != (decide (i=0)&&tb)) ei env S' hJ hT (hF.kid (iG hc)) xh
         have hx':VM D.hasT D.cT D.pP vars left env (tb) l=(fmS D.hasT D.cT D.pP vars (left != (decide (i=0)&&tb)) env c&&VM D.hasT D.cT D.pP vars left env (decide (i+1=0)&&tb) (l.drop (i+1))):=by
          rw[hx];simp[VM]
         generalize fmS D.hasT D.cT D.pP vars (left != (decide (i=0)&&tb)) env c=q5 at iha hx'
         obtain⟨ka,sa,la,⟨xa,xl⟩,fa⟩:=c
         simp only[cM] at gc iha
         have k3:=si.keep _ _ g3 a3 c3
         have k4:=si.keep _ _ g4 a4 c4
         have k5:=si.keep _ _ g5 a5 c5
         try simp only[go_sem,seval,cU,x0,x1',gc,iT,iF,jq,jr,jt]
         intro b16 hb16
         have j16:=ji.cons hb16 (.cells [.val (.int .i64 ka),.val (.string sa),.list .none 4 (cJ la),.val (.string xa),.list .none 2 (cI xl),.list .none 6 (cN fa)])
         have n3:b16≠b3:=ZI hb16 k3
         have n4:b16≠b4:=ZI hb16 k4
         have n5:b16≠b5:=ZI hb16 k5
         have hih:=iha _ j16
         have hend:∀ r S',JQ D vars ei env ((b16,.cells [.val (.int .i64 ka),.val (.string sa),.list .none 4 (cJ la),.val (.string xa),.list .none 2 (cI xl),.list .none 6 (cN fa)])::Si) q5 r S'->r=.ret (vb q5)/\∃ e',JS D vars e' env S'/\Stp D.jb e e' S5 S':=by
          rintro r S' ⟨rfl,e',hJ',hS'⟩
          exact⟨rfl,e',hJ',(si.trans (.cons hb16 _)).trans hS'⟩
         by_cases i0:i=0
         ·have z0:((i:Int)=0)=True:=iS xh
          by_cases k7:k=7
          ·have z7:=iS k7
           have ht:(left != (decide (i=0)&&tb))=!left:=by rw[<- htb];simp[i0,k7]
           rw[ht] at hih
           try simp only[go_sem,seval,z0,k3,k4,k5,n3,n4,n5,iC n3,iC n4,iC n5,z7,iT]
           exact oy
          ·have z7:=iU k7
           by_cases k8:k=8
           ·have z8:=iS k8
            have ht:(left != (decide (i=0)&&tb))=!left:=by rw[<- htb];simp[i0,k8]
            exact uj
           ·have z8:=iU k8
            have ht:(left != (decide (i=0)&&tb))=left:=by rw[<- htb];simp[k7,k8]
            exact uj
         ·have z0:((i:Int)=0)=False:=iU xh
          have ht:(left != (decide (i=0)&&tb))=left:=by simp[i0]
          rw[ht] at hih
          try simp only[go_sem,seval,z0,k3,k4,k5,n3,n4,n5,iC n3,iC n4,iC n5,iT,iV]
          exact oy
        ·have x1':=iU hi2
         have hq:VM D.hasT D.cT D.pP vars left env (tb) l=true:=by rw[hx,jD xh];rfl
         rw[hq]
         try simp only[go_sem,seval,cU,x1',iV]
         exact .mk (.refl _) (.refl _) ⟨rfl,ei,ji,s5.trans si⟩
       ·have y5:=iU s0
        try simp only[go_sem,seval,g4,cG,cF,y1,y10,y11,y2,y3,y4,y5,iT,iV]
        exact pf
      ·have y4:((a.length:Int) > 0)=True:=iS xh
       try simp only[go_sem,seval,g4,cG,cF,y1,y10,y11,y2,y3,y4,iT,iV]
       exact pf
     ·exact ue
    ·have y2:=iU t0
     try simp only[go_sem,seval,g4,cG,y1,y10,y11,y2,iT,iV]
     exact pf
 ·rw[gZ (.inr hpn)]
  have x1:=iU hpn
  try simp only[go_sem,seval,g4,cU,x1,iT,iV]
  exact .mk (.refl _) (.refl _) ⟨rfl,e,j5,s5⟩
end Go.Vx
end
