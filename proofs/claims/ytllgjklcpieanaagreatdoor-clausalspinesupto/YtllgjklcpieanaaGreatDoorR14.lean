/- A part of the proof of clausalSpinesProved. -/
import Derived.Test.YtllgjklcpieanaaGreatDoorR13
import Derived.Test.YtllgjklcpieanaaGreatDoorR12
import Derived.Test.YtllgjklcpieanaaGreatDoorR11
set_option linter.unusedVariables false
set_option linter.unusedSimpArgs false
set_option maxRecDepth 100000
section
namespace Go.Vx
open Go.Proofs
mutual
def Fm.shape:Fm->Ro
 | .mk _ _ a _ l=>.mk (cK a++cR l)
def cR:List Fm->List Ro
 | []=>[]
 | t::r=>t.shape::cR r
end
theorem dI:∀ l:List Fm,cR l=l.map Fm.shape
 | []=>rfl
 | t::r=>by simp[cR,dI r]
theorem drop_at{α:Type}{l:List α}{i:Nat}{a:α}(h:l[i]?=some a):l.drop i=a::l.drop (i+1):=by
 obtain⟨hi,rfl⟩:=List.getElem?_eq_some_iff.1 h
 exact mw hi
mutual
def prt:Ro->Int->Int
 | .mk l,m=>Yc l 1 m
def Yc:List Ro->Int->Int->Int
 | [],n,_=>n
 | t::r,n,m=>if n<=m then Yc r (n+prt t (m-n)) m else n
end
mutual
theorem Wg:∀ (t:Ro) (m:Int),0<=m->1<=prt t m/\prt t m<=m+1
 | .mk l,m,h=>by simp only[prt];exact Ib l 1 m xh xh
theorem Ib:∀ (l:List Ro) (n m:Int),1<=n->n<=m+1->1<=Yc l n m/\Yc l n m<=m+1
 | [],n,m,h1,h2=>by simp only[Yc];omega
 | t::r,n,m,h1,h2=>by
   simp only[Yc]
   split
   ·rename_i h
    have:=Wg t (m-n) xh
    exact Ib r _ m xh xh
   ·omega
end
theorem Y8(l:List Ro){n m:Int}(h:m<n):Yc l n m=n:=by
 cases l with
 | nil=>rfl
 | cons t r=>simp only[Yc];rw[ig xh]
mutual
def lvl:Ro->Int->Int
 | .mk l,m=>YD l 0 m+1
def YD:List Ro->Int->Int->Int
 | [],n,_=>n
 | t::r,n,m=>if 0<m then YD r (max n (lvl t (m-1))) m else n
end
mutual
theorem Rf:∀ (t:Ro) (m:Int),0<=m->1<=lvl t m/\lvl t m<=m+1
 | .mk l,m,h=>by simp only[lvl];have:=Nd l 0 m xh xh;omega
theorem Nd:∀ (l:List Ro) (n m:Int),0<=n->n<=m->0<=YD l n m/\YD l n m<=m
 | [],n,m,h1,h2=>by simp only[YD];omega
 | t::r,n,m,h1,h2=>by
   simp only[YD]
   split
   ·rename_i h
    have:=Rf t (m-1) xh
    exact Nd r _ m xh xh
   ·omega
end
theorem WX(l:List Ro){n m:Int}(h:¬ 0<m):YD l n m=n:=by
 cases l with
 | nil=>rfl
 | cons t r=>simp only[YD];rw[ig h]
theorem FF:∀ (t:Tm) (m:Int),0<=m->m<=4000->Pur nC 269 [.agg t.emb,vi m] (vi (prt t.shape m)):=by
 intro t
 induction t using ed with|h k n s l ih=>?_
 intro m h0 hm σ
 refine Zh.ok xy (fun hok=>?_)
 refine vw fun hlen=>?_
 rw[cF] at hlen
 clear hok
 simp only[cO]
 refine Zb [] [] Tryz.func269 rfl xy ?_;rw[Tryz.ntmps269,Tryz.results269]
 refine uw ?_
 refine Zp (mu:=[]) (dr:=[]) [5,6,7,8,9,10,11,12,13,14,15,16,17,18,19,20,21,22,23,24,25,26,27,28,29] (fun x:Nat×Int=>[(6,vi x.1),(5,vi x.2)]) (fun _=>σ)
  (fun x=>x.1<=l.length/\1<=x.2/\x.2<=m+1/\Yc (cK l) 1 m=Yc (cK (l.drop x.1)) x.2 m) (fun x=>l.length-x.1) (0,1) xy ⟨by simp,by simp,by dsimp only;omega,by simp⟩ ⟨.refl _,.refl _,trivial⟩ (.refl _) ?_
 rintro⟨i,c⟩ ⟨hi,hc1,hc2,hx⟩
 dsimp only at hi hc1 hc2 hx
 have hsh:prt (Tm.mk k n s l).shape m=Yc (cK l) 1 m:=by simp only[Tm.shape,prt]
 by_cases hi2:(i:Int)<(l.length:Int)
 ·have x1:=iS hi2
  by_cases hcm:c<=m
  ·have x2:=iS hcm
   refine uB fun x0=>?_
   refine uG fun a ha=>?_
   have g:(cJ l)[i]?=some a.emb:=by rw[cW,jp,ha];rfl
   have w1:IntKind.i64.wrap (m-c)=m-c:=Zk xh xh
   have iha:=ih a (iG ha) (m-c) xh xh
   have hb:=Wg a.shape (m-c) xh
   refine wx fun w2=>?_
   refine uz fun w3=>?_
   have hd:Yc (cK (l.drop i)) c m=Yc (cK (l.drop (i+1))) (c+prt a.shape (m-c)) m:=by
    rw[drop_at ha];simp only[cK,Yc,gZ hcm]
   exact pr
  ·have x2:=iU hcm
   have hf:prt (Tm.mk k n s l).shape m=c:=by rw[hsh,hx,Y8 _ xh]
   rw[hf]
   try simp only[go_sem,seval,cF,x1,x2,iT,iV]
   exact Zl
 ·have x1:=iU hi2
  have hf:prt (Tm.mk k n s l).shape m=c:=by rw[hsh,hx,jD xh];simp only[cK,Yc]
  rw[hf]
  refine wY ?_
  exact Zl
theorem FE:∀ (t:Ty) (m:Int),0<=m->m<=4000->Pur nC 270 [.agg t.emb,vi m] (vi (prt t.shape m)):=by
 intro t
 induction t using eC with|h s l ih=>?_
 intro m h0 hm σ
 refine Zh.ok xy (fun hok=>?_)
 refine vL fun hlen=>?_
 rw[cG] at hlen
 clear hok
 simp only[cQ]
 refine Zb [] [] Tryz.func270 rfl xy ?_;rw[Tryz.ntmps270,Tryz.results270]
 refine uw ?_
 refine Zp (mu:=[]) (dr:=[]) [5,6,7,8,9,10,11,12,13,14,15,16,17,18,19,20,21,22,23,24,25,26,27,28,29] (fun x:Nat×Int=>[(6,vi x.1),(5,vi x.2)]) (fun _=>σ)
  (fun x=>x.1<=l.length/\1<=x.2/\x.2<=m+1/\Yc (dg l) 1 m=Yc (dg (l.drop x.1)) x.2 m) (fun x=>l.length-x.1) (0,1) xy ⟨by simp,by simp,by dsimp only;omega,by simp⟩ ⟨.refl _,.refl _,trivial⟩ (.refl _) ?_
 rintro⟨i,c⟩ ⟨hi,hc1,hc2,hx⟩
 dsimp only at hi hc1 hc2 hx
 have hsh:prt (Ty.mk s l).shape m=Yc (dg l) 1 m:=by simp only[Ty.shape,prt]
 by_cases hi2:(i:Int)<(l.length:Int)
 ·have x1:=iS hi2
  by_cases hcm:c<=m
  ·have x2:=iS hcm
   refine uB fun x0=>?_
   refine uG fun a ha=>?_
   have g:(cI l)[i]?=some a.emb:=by rw[di,jp,ha];rfl
   have w1:IntKind.i64.wrap (m-c)=m-c:=Zk xh xh
   have iha:=ih a (iG ha) (m-c) xh xh
   have hb:=Wg a.shape (m-c) xh
   refine wx fun w2=>?_
   refine uz fun w3=>?_
   have hd:Yc (dg (l.drop i)) c m=Yc (dg (l.drop (i+1))) (c+prt a.shape (m-c)) m:=by
    rw[drop_at ha];simp only[dg,Yc,gZ hcm]
   obtain⟨sa,la⟩:=a
   simp only[cQ] at g iha
   try simp only[go_sem,seval,cG,x0,x1,x2,g,w1,iT,iF,jq,jr,jt]
   refine iha.use ?_
   try simp only[go_sem,seval,w2,w3]
   exact .mk (i+1,c+prt (Ty.mk sa la).shape (m-c)) ⟨by dsimp only;omega,by dsimp only;omega,by dsimp only;omega,by rw[hx,hd]⟩ xX ⟨.refl _,.refl _,trivial⟩ yS (.refl _)
  ·have x2:=iU hcm
   have hf:prt (Ty.mk s l).shape m=c:=by rw[hsh,hx,Y8 _ xh]
   rw[hf]
   try simp only[go_sem,seval,cG,x1,x2,iT,iV]
   exact Zl
 ·have x1:=iU hi2
  have hf:prt (Ty.mk s l).shape m=c:=by rw[hsh,hx,jD xh];simp only[dg,Yc]
  rw[hf]
  try simp only[go_sem,seval,cG,x1,iV]
  exact Zl
theorem Ht:∀ (t:Tm) (m:Int),0<=m->m<=4000->Pur nC 274 [.agg t.emb,vi m] (vi (lvl t.shape m)):=by
 intro t
 induction t using ed with|h k n s l ih=>?_
 intro m h0 hm σ
 refine Zh.ok xy (fun hok=>?_)
 refine vw fun hlen=>?_
 rw[cF] at hlen
 clear hok
 simp only[cO]
 refine Zb [] [] Tryz.func274 rfl xy ?_;rw[Tryz.ntmps274,Tryz.results274]
 refine uw ?_
 refine Zp (mu:=[]) (dr:=[]) [5,6,7,8,9,10,11,12,13,14,15,16,17,18,19,20,21,22,23,24,25,26,27] (fun x:Nat×Int=>[(6,vi x.1),(5,vi x.2)]) (fun _=>σ)
  (fun x=>x.1<=l.length/\0<=x.2/\x.2<=m/\YD (cK l) 0 m=YD (cK (l.drop x.1)) x.2 m) (fun x=>l.length-x.1) (0,0) xy ⟨by simp,by simp,by dsimp only;omega,by simp⟩ ⟨.refl _,.refl _,trivial⟩ (.refl _) ?_
 rintro⟨i,c⟩ ⟨hi,hc1,hc2,hx⟩
 dsimp only at hi hc1 hc2 hx
 have hsh:lvl (Tm.mk k n s l).shape m=YD (cK l) 0 m+1:=by simp only[Tm.shape,lvl]
 have w4:IntKind.i64.wrap (c+1)=c+1:=Zk xh xh
 by_cases hi2:(i:Int)<(l.length:Int)
 ·have x1:=iS hi2
  by_cases hcm:0<m
  ·have x2:=iS hcm
   refine uB fun x0=>?_
   refine uG fun a ha=>?_
   have g:(cJ l)[i]?=some a.emb:=by rw[cW,jp,ha];rfl
   have w1:IntKind.i64.wrap (m-1)=m-1:=Zk xh xh
   have iha:=ih a (iG ha) (m-1) xh xh
   have hb:=Rf a.shape (m-1) xh
   refine uz fun w3=>?_
   have hd:YD (cK (l.drop i)) c m=YD (cK (l.drop (i+1))) (max c (lvl a.shape (m-1))) m:=by
    rw[drop_at ha];simp only[cK,YD,gZ hcm]
   exact pp
  ·have x2:=iU hcm
   have hf:lvl (Tm.mk k n s l).shape m=c+1:=by rw[hsh,hx,WX _ xh]
   rw[hf]
   try simp only[go_sem,seval,cF,x1,x2,w4,iT,iV]
   exact Zl
 ·have x1:=iU hi2
  have hf:lvl (Tm.mk k n s l).shape m=c+1:=by rw[hsh,hx,jD xh];simp only[cK,YD]
  rw[hf]
  try simp only[go_sem,seval,cF,x1,w4,iV]
  exact Zl
theorem Oq:∀ (t:Ty) (m:Int),0<=m->m<=4000->Pur nC 240 [.agg t.emb,vi m] (vi (lvl t.shape m)):=by
 intro t
 induction t using eC with|h s l ih=>?_
 intro m h0 hm σ
 refine Zh.ok xy (fun hok=>?_)
 refine vL fun hlen=>?_
 rw[cG] at hlen
 clear hok
 simp only[cQ]
 refine Zb [] [] Tryz.func240 rfl xy ?_;rw[Tryz.ntmps240,Tryz.results240]
 refine uw ?_
 refine Zp (mu:=[]) (dr:=[]) [5,6,7,8,9,10,11,12,13,14,15,16,17,18,19,20,21,22,23,24,25,26,27] (fun x:Nat×Int=>[(6,vi x.1),(5,vi x.2)]) (fun _=>σ)
  (fun x=>x.1<=l.length/\0<=x.2/\x.2<=m/\YD (dg l) 0 m=YD (dg (l.drop x.1)) x.2 m) (fun x=>l.length-x.1) (0,0) xy ⟨by simp,by simp,by dsimp only;omega,by simp⟩ ⟨.refl _,.refl _,trivial⟩ (.refl _) ?_
 rintro⟨i,c⟩ ⟨hi,hc1,hc2,hx⟩
 dsimp only at hi hc1 hc2 hx
 have hsh:lvl (Ty.mk s l).shape m=YD (dg l) 0 m+1:=by simp only[Ty.shape,lvl]
 have w4:IntKind.i64.wrap (c+1)=c+1:=Zk xh xh
 by_cases hi2:(i:Int)<(l.length:Int)
 ·have x1:=iS hi2
  by_cases hcm:0<m
  ·have x2:=iS hcm
   refine uB fun x0=>?_
   refine uG fun a ha=>?_
   have g:(cI l)[i]?=some a.emb:=by rw[di,jp,ha];rfl
   have w1:IntKind.i64.wrap (m-1)=m-1:=Zk xh xh
   have iha:=ih a (iG ha) (m-1) xh xh
   have hb:=Rf a.shape (m-1) xh
   refine uz fun w3=>?_
   have hd:YD (dg (l.drop i)) c m=YD (dg (l.drop (i+1))) (max c (lvl a.shape (m-1))) m:=by
    rw[drop_at ha];simp only[dg,YD,gZ hcm]
   obtain⟨sa,la⟩:=a
   simp only[cQ] at g iha
   try simp only[go_sem,seval,cG,x0,x1,x2,g,w1,iT,iF,jq,jr,jt]
   refine iha.use ?_
   refine vF ?_
   exact .mk (i+1,max c (lvl (Ty.mk sa la).shape (m-1))) ⟨by dsimp only;omega,by dsimp only;omega,by dsimp only;omega,by rw[hx,hd]⟩ xX ⟨.refl _,.refl _,trivial⟩ yS (.refl _)
  ·have x2:=iU hcm
   have hf:lvl (Ty.mk s l).shape m=c+1:=by rw[hsh,hx,WX _ xh]
   rw[hf]
   try simp only[go_sem,seval,cG,x1,x2,w4,iT,iV]
   exact Zl
 ·have x1:=iU hi2
  have hf:lvl (Ty.mk s l).shape m=c+1:=by rw[hsh,hx,jD xh];simp only[dg,YD]
  rw[hf]
  try simp only[go_sem,seval,cG,x1,w4,iV]
  exact Zl
open Go.RowKit
theorem Xi{σ:Store}{b c:Nat}(h:c≠b):(σ.del b).get c=σ.get c:=by
 induction σ with
 | nil=>rfl
 | cons p r ih =>
   obtain⟨d,x⟩:=p
   simp only[Store.del]
   by_cases e:d=b
   ·rw[gZ e];simp only[Store.get];rw[ig (by rw[e];exact iC h)]
   ·rw[ig e];simp only[Store.get];rw[ih]
theorem YP{b:Nat}:∀ {σ:Store},Zm σ b->∀ {b':Nat} {y:AObj},(b',y)∈σ->b'≠b
 | [],_,_,_,h=>by simp at h
 | (c,z)::r,hf,b',y,h=>by
   rcases List.mem_cons.1 h with e|h
   ·injection e with e1 e2;rw[e1];exact hf.1
   ·exact YP hf.2 h
theorem Sub.set_of{σ S:Store}{b:Nat}{x:AObj}(h:Sub σ S)(hb:Zm σ b):Sub σ (S.set b x) :=
 ⟨fun p hp=>TP (h.1 _ hp) (YP hb hp),fun hn=>h.2 (by rw[Ql] at hn;exact hn)⟩
theorem Wa{σ S:Store}{b:Nat}(h:∀ p∈σ,p∈S)(k:Zm S b):Zm σ b:=QX fun x hx=>YP k (h _ hx) rfl
theorem Qk{S:Store}{b:Nat}{x:AObj}:∀ p∈S,p.1≠b->p∈S.set b x:=fun p hp h=>by obtain⟨c,y⟩:=p;exact TP hp h
theorem Zh.nodup{P:nE}{f:nL}{args:List AV}{σ:Store}{R:ZE->Store->Prop}(he:YV P f=true)(h:(σ.map (·.1)).Nodup->Zh P f args σ R):Zh P f args σ R :=
 ⟨he,fun w vs hσ hv=>(h hσ.nodup).2 w vs hσ hv⟩
theorem Wk.nilA(r:Rt)(s s':Nat):Wk (.list r s []) (.list .none s' []):=fun L w v h=>by
 cases h with
 | list _ _ _ cap a b o rd hcap hlim hsz ha hr h1 h2=>exact .list .none s' [] cap a b o rd hcap hlim xf ha trivial xf xf
theorem Wk.tup3{a b c a' b' c':AV}(h1:Wk a a')(h2:Wk b b')(h3:Wk c c'):Wk (.tup [a,b,c]) (.tup [a',b',c']):=.tup rfl (fun i x y hx hy=>by
 match i with
 | 0=>simp at hx hy;subst hx;subst hy;exact h1
 | 1=>simp at hx hy;subst hx;subst hy;exact h2
 | 2=>simp at hx hy;subst hx;subst hy;exact h3
 | i+3=>simp at hx)
theorem Wk.tup2{a b a' b':AV}(h1:Wk a a')(h2:Wk b b'):Wk (.tup [a,b]) (.tup [a',b']):=.tup rfl (fun i x y hx hy=>by
 match i with
 | 0=>simp at hx hy;subst hx;subst hy;exact h1
 | 1=>simp at hx hy;subst hx;subst hy;exact h2
 | i+2=>simp at hx)
def Has(σ S:Store):Prop:=∀ p∈σ,p∈S
theorem Has.refl(σ:Store):Has σ σ:=fun _ h=>h
theorem Has.cons{σ S:Store}(h:Has σ S)(p:Nat×AObj):Has σ (p::S):=fun q hq=>kR _ (h q hq)
theorem Has.set{σ S:Store}(h:Has σ S){b:Nat}(hb:Zm σ b)(x:AObj):Has σ (S.set b x):=fun p hp=>Qk p (h p hp) (fun e=>by obtain⟨k,y⟩:=p;exact YP hb hp e)
theorem Has.sub{σ S:Store}(h:Has σ S)(hn:(σ.map (·.1)).Nodup):Sub σ S:=⟨h,fun _=>hn⟩
theorem Has.fresh{σ S:Store}(h:Has σ S){b:Nat}(hb:Zm S b):Zm σ b:=Wa h hb
theorem Has.get{σ S:Store}(h:Has σ S)(hn:(S.map (·.1)).Nodup){b:Nat}{x:AObj}(hb:σ.get b=some x):S.get b=some x:=by
 have hm:=h _ (ZU hb)
 induction S with
 | nil=>cases hm
 | cons p r ih =>
   obtain⟨c,y⟩:=p
   simp only[iR,lF] at hn
   by_cases e:c=b
   ·subst e
    rcases List.mem_cons.1 hm with e|hm
    ·injection e with _ e;rw[e,Ze]
    ·exact absurd (iB (f:=(·.1)) hm) hn.1
   ·rcases List.mem_cons.1 hm with e2|hm
    ·injection e2 with e2 _;exact absurd e2.symm e
    ·rw[Zc e]
     clear ih
     have:∀ (r:Store),(r.map (·.1)).Nodup->(b,x)∈r->Store.get r b=some x:=by
      intro r
      induction r with
      | nil=>intro _ h;cases h
      | cons q r ih =>
        obtain⟨d,z⟩:=q
        intro hn hm
        simp only[iR,lF] at hn
        rcases List.mem_cons.1 hm with e|hm
        ·injection e with e1 e2;rw[e1,e2,Ze]
        ·have hne:d≠b:=fun e=>hn.1 (by rw[e];exact iB (f:=(·.1)) hm)
         rw[Zc hne];exact ih hn.2 hm
     exact this r hn.2 hm
def LV(σ0 S:Store)(v:AV)(sz:Nat)(es:List (List AV)):Prop :=
 ∃ rt s',v=.list rt s' es/\(s'=sz\/es=[])/\((rt=.full/\es=[])\/∃ b e c,rt=.tip b e c/\s'=sz/\S.get b=some (.tail e c)/\Zm σ0 b)
theorem LV.nil(σ0 S:Store)(sz:Nat):LV σ0 S (.list .full 0 []) sz []:=⟨_,_,rfl,.inr rfl,.inl ⟨rfl,rfl⟩⟩
theorem gC(σ0 S:Store)(s sz:Nat):LV σ0 S (.list .full s []) sz []:=⟨_,_,rfl,.inr rfl,.inl ⟨rfl,rfl⟩⟩
theorem LV.one{σ0 S:Store}{v:AV}{sz:Nat}{es:List (List AV)}(h:LV σ0 S v sz es):v.one=true:=by obtain⟨rt,s',rfl,_⟩:=h;rfl
theorem LV.cells{σ0 S:Store}{v:AV}{sz:Nat}{es:List (List AV)}(h:LV σ0 S v sz es):v.cells=some [v]:=by obtain⟨rt,s',rfl,_⟩:=h;rfl
theorem LV.wk{σ0 S:Store}{v:AV}{sz:Nat}{es:List (List AV)}(h:LV σ0 S v sz es):Wk v (.list .none sz es):=by
 exact sN
def Tv(S S':Store):Prop:=∀ k x,S.get k=some x->(∀ e c,x≠.tail e c)->S'.get k=some x
theorem Tv.refl(S:Store):Tv S S:=fun _ _ h _=>h
theorem Tv.trans{a b c:Store}(h:Tv a b)(k:Tv b c):Tv a c:=fun i x hi hx=>k i x (h i x hi hx) hx
theorem Tv.cons{S:Store}{b:Nat}(hb:Zm S b)(x:AObj):Tv S ((b,x)::S):=fun k y hk _=>by rw[Zg hb xC];exact hk
theorem LV.keep{σ0 S S':Store}{v:AV}{sz:Nat}{es:List (List AV)}(h:LV σ0 S v sz es)(k:∀ b x,S.get b=some x->S'.get b=some x):LV σ0 S' v sz es:=by
 exact rZ
theorem LV.cons{σ0 S:Store}{v:AV}{sz:Nat}{es:List (List AV)}(h:LV σ0 S v sz es){b:Nat}(hb:Zm S b)(x:AObj):LV σ0 ((b,x)::S) v sz es :=
 h.keep (fun k y hk=>by rw[Zg hb xC];exact hk)
theorem LV.set{σ0 S:Store}{v:AV}{sz:Nat}{es:List (List AV)}(h:LV σ0 S v sz es){b:Nat}{y:AObj}(hb:S.get b=some y)(hy:∀ e c,y≠.tail e c)(x:AObj):LV σ0 (S.set b x) v sz es:=by
 obtain⟨rt,s',e,hz,ht⟩:=h
 exact⟨rt,s',e,hz,ht.imp id (fun⟨b',e,c,h1,h2,h3,h4⟩=>⟨b',e,c,h1,h2,by rw[Za (fun e'=>by rw[e',hb] at h3;injection h3 with h3;exact hy _ _ h3)];exact h3,h4⟩)⟩
theorem LV.append{sz by_:Nat}{z:nG}{σ0 S:Store}{v:AV}{es ys:List (List AV)}{r2:Rt}{s2:Nat}{K:AV->Store->Prop}(h:LV σ0 S v sz es)
 (hzs:z.cells.size=sz) (hb5:by_<=512) (hl:es.length+ys.length<=137438953472) (h2:s2=sz) (hne:ys≠[]) (hH:Has σ0 S) (k:∀ v' S',LV σ0 S' v' sz (es++ys)->Tv S S'->Has σ0 S'->K v' S'):apZ (some sz) (some z) (some by_) v (.list r2 s2 ys) S K:=by
 obtain⟨rt,s',rfl,hsz,ht⟩:=h
 have go:∀ (S1:Store) (b e c:Nat),(S1=S\/∃ b0 e0 c0,S.get b0=some (.tail e0 c0)/\Zm σ0 b0/\S1=S.del b0)->Zm S1 b->K (.list (.tip b e c) sz (es++ys)) ((b,.tail e c)::S1):=by
  intro S1 b e c hS1 hb
  have kept1:Tv S S1:=by
   exact re
  have has1:Has σ0 S1:=by
   intro p hp
   rcases hS1 with rfl|⟨b0,e0,c0,hg,hf,rfl⟩
   ·exact hH p hp
   ·obtain⟨k,x⟩:=p
    exact U6 (hH _ hp) (YP hf hp)
  exact k _ _ ⟨_,_,rfl,.inl rfl,.inr ⟨b,e,c,rfl,rfl,Ze _ _ _,has1.fresh hb⟩⟩ (kept1.trans (.cons hb _)) (has1.cons _)
 unfold apZ
 refine⟨hzs,hb5,by simp only[lim];exact hl,hsz,.inl h2,?_⟩
 rcases ht with⟨rfl,rfl⟩|⟨b0,e0,c0,rfl,rfl,hg,hf⟩
 ·exact⟨fun h=>absurd h hne,fun _ b e c hb=>go S b e c (.inl rfl) hb⟩
 ·exact⟨hg,rfl,fun b e c hb=>go _ b e c (.inr ⟨b0,e0,c0,hg,hf,rfl⟩) hb⟩
theorem Ws{P:nE}{t kt et:nF}{z:nG}{r c:Nat}{l:List (Int×AV×Nat)}{x:Int}{ok:Bool}{S:Store}{K:AV->Prop}(ht:P.underlying t=some (.map kt et))(hk:P.underlying kt=some (.int .i64))(hz:Zy P et=some z)
 (hg:S.get r=some (.map (ZS keI l) c)) (k:K (lkV z (VL l x) ok)):UX P t (.val (.map (some r))) (.val (.int .i64 x)) ok S K :=
 ⟨Int,inferInstance,keI,r,c,l,x,kt,et,z,ht,QI hk,rfl,rfl,hg,hz,k⟩
theorem Yv{P:nE}{t kt et:nF}{r c:Nat}{l:List (Int×AV×Nat)}{x:Int}{v:AV}{S:Store}{K:Store->Prop}(ht:P.underlying t=some (.map kt et))(hk:P.underlying kt=some (.int .i64))
 (hg:S.get r=some (.map (ZS keI l) c)) (k:K (S.set r (.map (ZS keI (T3 l x v c)) (T5 l x c)))):Um P t (.val (.map (some r))) (.val (.int .i64 x)) v S K :=
 ⟨Int,inferInstance,keI,r,c,l,x,kt,et,ht,QI hk,rfl,rfl,hg,k⟩
theorem Tg{P:nE}{t kt et:nF}{z:nG}{r c:Nat}{l:List (ByteArray×AV×Nat)}{x:ByteArray}{ok:Bool}{S:Store}{K:AV->Prop}(ht:P.underlying t=some (.map kt et))(hk:P.underlying kt=some .string)(hz:Zy P et=some z)
 (hg:S.get r=some (.map (ZS keS l) c)) (k:K (lkV z (VL l x) ok)):UX P t (.val (.map (some r))) (.val (.string x)) ok S K :=
 ⟨ByteArray,inferInstance,keS,r,c,l,x,kt,et,z,ht,QH hk,rfl,rfl,hg,hz,k⟩
theorem Vv{P:nE}{t kt et:nF}{r c:Nat}{l:List (ByteArray×AV×Nat)}{x:ByteArray}{v:AV}{S:Store}{K:Store->Prop}(ht:P.underlying t=some (.map kt et))(hk:P.underlying kt=some .string)
 (hg:S.get r=some (.map (ZS keS l) c)) (k:K (S.set r (.map (ZS keS (T3 l x v c)) (T5 l x c)))):Um P t (.val (.map (some r))) (.val (.string x)) v S K :=
 ⟨ByteArray,inferInstance,keS,r,c,l,x,kt,et,ht,QH hk,rfl,rfl,hg,k⟩
theorem Oo(z:nG)(o:nM AV):lkV z o false=o.getD (dL z):=rfl
theorem FP(z:nG)(o:nM AV):lkV z o true=.tup [o.getD (dL z),.val (.bool o.isSome)]:=rfl
open Go.RowKit
def Wm(Fv:Nat->AV->Store->Prop)(fr:Fr)(S:Store):List (Nat×Nat)->Prop
 | []=>True
 | (k,d)::r=>Fv k (fr d) S/\Wm Fv fr S r
def Iq(R:Store->Store->Prop)(G:Store->Prop)(F:AV->Store->Prop)(S:Store):ZE->Store->Prop
 | .ret v,S'=>R S S'/\G S'/\F v S'
 | .pan _,_=>False
theorem HF(R:Store->Store->Prop)(G:Store->Prop)(F:AV->Store->Prop)(S S':Store)(v:AV):Iq R G F S (.ret v) S'=(R S S'/\G S'/\F v S'):=rfl
def slF(fr:Fr)(d:nM Nat)(s:Nat)(v:AV):AV:=match d with|some _=>v|none=>fr s
theorem Fa(fr:Fr)(d s:Nat)(v:AV):slF fr (some d) s v=v:=rfl
theorem Fb(fr:Fr)(s:Nat)(v:AV):slF fr none s v=fr s:=rfl
attribute [go_sem] Fa Fb
def TM(P:nE)(mu:List Nat)(ch:List Nat)(fr0:Fr)(Fv:Nat->AV->Store->Prop)(R:Store->Store->Prop)(G:Store->Prop):List (Nat×List (Nat×Nat))->Nat->List nI->Prop
 | _,_,[]=>True
 | [],_,_::_=>False
 | (sd,dp)::dr,i,o::r=>(∀ fr S,Zf ch fr0 fr->G S->Wm Fv fr S dp->ZA P (match o.dst with|some d=>mu.contains d|none=>false) fr.ev S (Iq R G (fun v S'=>Fv i (slF fr o.dst sd v) S') S) o.op)/\TM P mu ch fr0 Fv R G dr (i+1) r
theorem Xz(P:nE)(mu:List Nat)(ch:List Nat)(fr0:Fr)(Fv:Nat->AV->Store->Prop)(R:Store->Store->Prop)(G:Store->Prop)(dp:List (Nat×List (Nat×Nat)))(i:Nat):TM P mu ch fr0 Fv R G dp i []=True:=by cases dp<;>rfl
theorem Xe(P:nE)(mu:List Nat)(ch:List Nat)(fr0:Fr)(Fv:Nat->AV->Store->Prop)(R:Store->Store->Prop)(G:Store->Prop)(sd:Nat)(dp:List (Nat×Nat))(dr:List (Nat×List (Nat×Nat)))(i:Nat)(o:nI)(r:List nI) :
 TM P mu ch fr0 Fv R G ((sd,dp)::dr) i (o::r)=((∀ fr S,Zf ch fr0 fr->G S->Wm Fv fr S dp->ZA P (match o.dst with|some d=>mu.contains d|none=>false) fr.ev S (Iq R G (fun v S'=>Fv i (slF fr o.dst sd v) S') S) o.op)/\TM P mu ch fr0 Fv R G dr (i+1) r):=rfl
theorem YK(Fv:Nat->AV->Store->Prop)(fr:Fr)(S:Store):Wm Fv fr S []=True:=rfl
theorem Yu(Fv:Nat->AV->Store->Prop)(fr:Fr)(S:Store)(k d:Nat)(r:List (Nat×Nat)):Wm Fv fr S ((k,d)::r)=(Fv k (fr d) S/\Wm Fv fr S r):=rfl
attribute [go_sem ↓] HF
def Tl(dr:List (Nat×List (Nat×Nat)))(i:Nat):nM Nat:=(dr[i]?).map (·.1)
def Lk(ops:nN nI)(all:List (Nat×List (Nat×Nat))):List (Nat×List (Nat×Nat))->Nat->Bool
 | [],_=>true
 | dp::dr,i=>dp.2.all (fun p=>((RI ops.toList []).getD i 0).testBit p.1&&decide (Tl all p.1=some p.2))&&Lk ops all dr (i+1)
def Qh(ops:nN nI)(ch:List Nat):List (Nat×List (Nat×Nat))->Nat->Bool
 | [],_=>true
 | dp::dr,i=>(match ops[i]? with
  | some o=>decide (o.guard=none)&&(match o.dst with|some d=>decide (d=dp.1)&&ch.contains d|none=>true)&&(List.range ops.size).all (fun j=>decide (j=i) || decide ((ops[j]?).bind (·.dst)≠some dp.1) || ((RI ops.toList []).getD i 0).testBit j)
  | none=>false)&&Qh ops ch dr (i+1)
theorem Q7{ops:nN nI}{all:List (Nat×List (Nat×Nat))}:∀ {dr:List (Nat×List (Nat×Nat))} {i:Nat},Lk ops all dr i=true->∀ (j:Nat) (dp:Nat×List (Nat×Nat)),dr[j]?=some dp->∀ p∈dp.2,Bef ops p.1 (i+j)/\Tl all p.1=some p.2
 | [],_,_,j,dp,h=>by simp at h
 | d::dr,i,h,j,dp,hj=>by
   simp only[Lk,kJ] at h
   cases j with
   | zero =>
     simp only[kU,jq] at hj
     subst hj
     intro p hp
     have:=List.all_eq_true.1 h.1 p hp
     simp only[kJ,kD] at this
     exact⟨XX (ops:=ops) ops.toList [] (fun j=>by simp) (fun j k hk=>by simp at hk) _ _ this.1,this.2⟩
   | succ j =>
     have:=Q7 h.2 j dp (by simpa using hj)
     intro p hp
     have:=this p hp
     rw[show i+(j+1)=i+1+j from by omega]
     exact this
theorem VF{ops:nN nI}{ch:List Nat}:∀ {dr:List (Nat×List (Nat×Nat))} {i:Nat},Qh ops ch dr i=true->∀ (j:Nat) (dp:Nat×List (Nat×Nat)) (o:nI),dr[j]?=some dp->ops[i+j]?=some o ->
 o.guard=none/\(∀ d,o.dst=some d->d=dp.1/\ch.contains d=true)/\∀ (k:Nat) (p:nI),ops[k]?=some p->p.dst=some dp.1->k=i+j\/Bef ops k (i+j)
 | [],_,_,j,dp,o,h,_=>by simp at h
 | d::dr,i,h,j,dp,o,hj,ho=>by
   simp only[Qh,kJ] at h
   cases j with
   | zero =>
     simp only[kU,jq] at hj
     subst hj
     have h1:=h.1
     rw[iw] at ho
     rw[ho] at h1
     simp only[kJ,kD] at h1
     obtain⟨⟨q1,q2⟩,q3⟩:=h1
     refine⟨q1,fun d' hd=>?_,fun k p hk hp=>?_⟩
     ·rw[hd] at q2
      simpa using q2
     ·have:=List.all_eq_true.1 q3 k (List.mem_range.2 (Array.getElem?_eq_some_iff.1 hk).1)
      simp only[kH,kD] at this
      rcases this with(e|e)|e
      ·exact .inl e
      ·rw[hk] at e;exact absurd hp e
      ·exact .inr (XX (ops:=ops) ops.toList [] (fun j=>by simp) (fun j k hk=>by simp at hk) _ _ e)
   | succ j =>
     have:=VF h.2 j dp o (by simpa using hj) (by rw[show i+1+j=i+(j+1) from by omega];exact ho)
     rw[show i+(j+1)=i+1+j from by omega]
     exact this
theorem SN{P:nE}{mu ch:List Nat}{fr0:Fr}{Fv:Nat->AV->Store->Prop}{R:Store->Store->Prop}{G:Store->Prop}:∀ {dr:List (Nat×List (Nat×Nat))} {i:Nat} {l:List nI},TM P mu ch fr0 Fv R G dr i l->∀ (j:Nat) (o:nI),l[j]?=some o ->
 ∃ dp,dr[j]?=some dp/\∀ fr S,Zf ch fr0 fr->G S->Wm Fv fr S dp.2->ZA P (match o.dst with|some d=>mu.contains d|none=>false) fr.ev S (Iq R G (fun v S'=>Fv (i+j) (slF fr o.dst dp.1 v) S') S) o.op
 | _,_,[],_,j,o,h=>by simp at h
 | [],_,_::_,h,_,_,_=>h.elim
 | (sd,dp)::dr,i,a::r,h,j,o,ho=>by
   cases j with
   | zero =>
     simp only[kU,jq] at ho
     subst ho
     exact⟨(sd,dp),rfl,h.1⟩
   | succ j =>
     obtain⟨dp',h1,h2⟩:=SN h.2 j o (by simpa using ho)
     refine⟨dp',by simpa using h1,?_⟩
     rw[show i+(j+1)=i+1+j from by omega]
     exact h2
theorem W0{Fv:Nat->AV->Store->Prop}{fr:Fr}{S:Store}:∀ {l:List (Nat×Nat)},(∀ p∈l,Fv p.1 (fr p.2) S)->Wm Fv fr S l
 | [],_=>trivial
 | (k,d)::r,h=>⟨h (k,d) ir,W0 (fun p hp=>h p (kR _ hp))⟩
theorem eR{P:nE}{n:Nat}{ds:List nK}{id:Nat}{ops:nN nI}{Q:Exit->Fr->Store->Prop}{fr0:Fr}{σ0:Store}(mu:List Nat)(m:Nat)(ch:List Nat)(dr:List (Nat×List (Nat×Nat)))(all:List (Nat×Nat))(Fv:Nat->AV->Store->Prop)(R:Store->Store->Prop)(G:Store->Prop)
 (hm:P.follows .mixedOrders=true) (hchk:(ops.toList.all (opB n)&&TH ops m&&Lk ops dr dr 0&&Qh ops ch dr 0&&all.all (fun p=>decide (Tl dr p.1=some p.2))&&decide (dr.length=m))=true)
 (hst:∀ i v S S',R S S'->Fv i v S->Fv i v S') (g0:G σ0) (h:TM P mu ch fr0 Fv R G dr 0 (ops.toList.take m))
 (hq:∀ fr S,Zf ch fr0 fr->G S->Wm Fv fr S all->XU P mu ops (ops.toList.drop m) Q fr S):AWp P n ds (.region id ops true) Q fr0 σ0:=by
 simp only[kJ,kD] at hchk
 obtain⟨⟨⟨⟨⟨hB,hdw⟩,hdp⟩,hsl⟩,hall⟩,hlen⟩:=hchk
 have hBl:=List.all_eq_true.1 hB
 have hd:=Ve hdw
 have hle:=hd.le
 intro a w hc Q' hq' ro mm
 refine mB hm ?_
 have ev:=Ev.drew σ0 w
 have inR:∀ {i d:Nat},Tl dr i=some d->i<m:=fun{i d} h=>by
  exact rP
 have key:∀ (fuel:Nat) (ls:nN Bool) (fr:Fr) (S:Store) (a':Act) (w':nH),Lst ops ls->(∀ j,m<=j->j<ops.size->ls.getD j false=false)->(List.range m).countP (fun k=>!ls.getD k false)+(ops.size-m)<=fuel->Zf ch fr0 fr->G S ->
  (∀ (i d:Nat),Tl dr i=some d->ls.getD i false=true->Fv i (fr d) S)->YL n ds S fr a' w'->Ev σ0 w S w'->wpAnyIn (fen ro) mm P .any ops Q' fuel ls a' w':=by
  intro fuel
  induction fuel with
  | zero =>
    intro ls fr S a' w' hl hge hcnt hk hG hF hc' hv'
    have hz:∀ j,j<m->ls.getD j false=true:=fun j hj=>by
     cases hl:ls.getD j false with
     | true=>rfl
     | false =>
       have:0<(List.range m).countP (fun k=>!ls.getD k false):=List.countP_pos_iff.2 ⟨j,List.mem_range.2 hj,by rw[hl];rfl⟩
       omega
    refine W2 hd 0 m ls a' w' (kO _) hl (fun j hj=>⟨fun h=>?_,hz j⟩) xh ?_
    ·apply kP;intro h2;rw[hge j h2 hj] at h;cases h
    ·exact pS
  | succ fuel ih =>
    intro ls fr S a' w' hl hge hcnt hk hG hF hc' hv'
    by_cases hz:∀ j,j<m->ls.getD j false=true
    ·refine W2 hd (fuel+1) m ls a' w' (kO _) hl (fun j hj=>⟨fun h=>?_,hz j⟩) xh ?_
     ·apply kP;intro h2;rw[hge j h2 hj] at h;cases h
     ·exact pS
    obtain⟨j0,hj0,hl0⟩:∃ j,j<m/\ls.getD j false=false:=by
     exact rW
    refine⟨fun hr=>absurd hr (XS hd hl (jJ hj0 hle) hl0),fun i hi=>?_⟩
    obtain⟨h1,h2,o,ho,h3⟩:=Yl.1 hi
    have hsz:i<ls.size:=by rw[hl.size];exact h1
    have hni:ls.getD i false=false:=by rw[<- Xj hsz];exact h2
    have him:i<m:=by
     apply kP
     intro h4
     have:=hl.bef_ready (hd.tail i j0 h4 h1 xh) hi
     rw[hl0] at this
     cases this
    exact om
 exact qM
end Go.Vx
end
