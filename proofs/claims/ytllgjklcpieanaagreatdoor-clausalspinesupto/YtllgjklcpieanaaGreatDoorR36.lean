/- A part of the proof of clausalSpinesProved. -/
import Derived.Test.YtllgjklcpieanaaGreatDoorR34
import Derived.Test.YtllgjklcpieanaaGreatDoorR13
import Derived.Test.YtllgjklcpieanaaGreatDoorR35
import Derived.Test.YtllgjklcpieanaaGreatDoorRows
import Derived.ChangeArms
import Derived.WalkKit
import Derived.ProofKit
import Derived.Test.YtllgjklcpieanaaGreatDoorR12
import Derived.OpenShut
import Derived.JoinedCond
import Derived.Carry
set_option linter.unusedVariables false
set_option linter.unusedSimpArgs false
set_option maxRecDepth 100000
section
namespace Go.Vx
open Go.Proofs Go.RowKit
theorem Ry{P:nE}{t e:nF}{r:Rt}{s:Nat}{es:List (List AV)}{K:AV->Prop}(hu:P.underlying t=some (.slice e))(hs:ZB P e=some s)(k:K (.list .full s es)):Tt P t (.list r s es) none (some (.val (.int .i64 es.length))) (some (.val (.int .i64 es.length))) K:=by
 unfold Tt
 simp only[hu,XL]
 refine⟨hs,rfl,by omega,by omega,trivial,by omega,?_⟩
 simpa using k
theorem ID(es:List (List AV)):Pur nC 184 [.list .none 1 es] (.list .full 1 es):=by
 intro σ
 refine Zb [] [] Tryz.func184 rfl xy ?_;rw[Tryz.ntmps184,Tryz.results184]
 refine uw ?_
 refine Ry (e:=3) xy xy ?_
 exact oG
theorem Bo(es:List (List AV)):Pur nC 203 [.list .none 2 es] (.list .full 2 es):=by
 intro σ
 refine Zb [] [] Tryz.func203 rfl xy ?_;rw[Tryz.ntmps203,Tryz.results203]
 refine uw ?_
 refine Ry (e:=54) xy xy ?_
 exact oG
theorem Bp(es:List (List AV)):Pur nC 204 [.list .none 9 es] (.list .full 9 es):=by
 intro σ
 refine Zb [] [] Tryz.func204 rfl xy ?_;rw[Tryz.ntmps204,Tryz.results204]
 refine uw ?_
 refine Ry (e:=270) xy xy ?_
 exact oG
theorem JR(bound:List Int)(q:nM Nat)(n:Int)(hl:bound.length<=1000000):Pur nC 118 [.agg [.list .none 1 (Zu bound),.val (.map q)],vi n] (.agg [.list .none 1 (Zu (bound++[n])),.val (.map q)]):=by
 intro σ
 refine Zh.nodup xy (fun hnd=>?_)
 refine Zb [] [(1,1000,0)] Tryz.func118 rfl xy ?_;rw[Tryz.ntmps118,Tryz.results118]
 refine uw ?_
 intro b4 hb4
 obtain⟨S4,hS4⟩:∃ S4:Store,S4=(b4,AObj.cells [AV.list Rt.full 0 [],AV.val (Value.map none)])::σ:=⟨_,rfl⟩
 have g4:S4.get b4=some (.cells [.list .full 0 [],.val (.map none)]):=by rw[hS4];exact Ze _ _ _
 have H4:Has σ S4:=by rw[hS4];exact(Has.refl σ).cons _
 have f4:Zm σ b4:=hb4
 rw[<- hS4]
 clear hb4 hS4
 first|refine .seq ?_|skip
 refine eR [] 8 [5,6,7,8,9,10,11,12] [(5,[]),(6,[(0,5)]),(7,[(1,6)]),(8,[]),(9,[(3,8)]),(10,[(2,7),(4,9)]),(11,[]),(12,[(6,11)])] [(5,10),(7,12)] (fun i v S=>match i with
  | 0=>v=.ro [.list .none 1 (Zu bound),.val (.map q)]
  | 1=>v=.list .none 1 (Zu bound)
  | 2=>v=.list .full 1 (Zu bound)
  | 3=>v=vi n
  | 4=>v=.list .full 1 [[vi n]]
  | 5=>LV σ S v 1 (Zu (bound++[n]))
  | 6=>v=.ro [.val (.map q)]
  | _=>v=.val (.map q)) Xl (fun S=>Xl S4 S/\Has S4 S) xy xy ?_ ⟨.refl _,.refl _⟩ ?_ ?_
 ·intro i v S S' hR h
  match i,h with
  | 0,h=>exact h
  | 1,h=>exact h
  | 2,h=>exact h
  | 3,h=>exact h
  | 4,h=>exact h
  | 5,h=>exact h.keep hR
  | 6,h=>exact h
  | _+7,h=>exact h
 ·refine wZ ?_
  refine⟨?_,?_,?_,?_,?_,?_,?_,?_,trivial⟩
  ·exact rR
  ·exact uq
  ·rintro fr S hk hG ⟨h0,-⟩
   refine wM ?_
   refine(ID _).use ?_
   refine uw ?_
   exact hG
  ·rintro fr S hk hG -
   have q1:fr 1=vi n:=hk 1 rfl
   try simp only[go_sem,seval,q1]
   exact hG
  ·rintro fr S hk hG ⟨h0,-⟩
   refine wM ?_
   exact⟨rfl,hG⟩
  ·rintro fr S hk hG ⟨h0,h1,-⟩
   try simp only[go_sem,seval,h0,h1]
   refine⟨by rw[ZZ];simp only[lim];omega,fun b e c hb=>?_⟩
   have hs:Xl S ((b,AObj.tail e c)::S):=fun k x g=>by rw[Zg hb xA];exact g
   have hh:=hG.2.cons (b,AObj.tail e c)
   exact⟨hs,⟨hG.1.trans hs,hh⟩,_,_,by simp[Zu],.inl rfl,.inr ⟨b,e,c,rfl,rfl,Ze _ _ _,(H4.trans hG.2).fresh hb⟩⟩
  ·exact rR
  ·exact uq
 rintro fr S5 hk ⟨hG1,hG2⟩ ⟨h5,h7,-⟩
 refine wV fun q4=>?_
 have g5:=hG1 _ _ g4
 have h12:fr 12=.val (.map q):=h7
 have h10:LV σ S5 (fr 10) 1 (Zu (bound++[n])):=h5
 try simp only[go_sem,seval,q4,g5,h12,h10.one,h10.cells]
 refine uJ ?_
 have g6:(S5.set b4 (.cells [fr 10,.val (.map q)])).get b4=some (.cells [fr 10,.val (.map q)]):=Zd g5
 try simp only[go_sem,seval,q4,g6,h10.one,h10.cells]
 exact .mk (Wkl.agg (show Wkl [_,.val (.map q)] [.list .none 1 (Zu (bound++[n])),.val (.map q)] from⟨h10.wk,.refl _,trivial⟩)) (((H4.trans hG2).set f4 _).sub hnd) ⟨rfl,rfl⟩
def CtR(bm:Nat)(v:AV)(k:Int)(S:Store):ZE->Store->Prop:=fun r S'=>S'=S.set bm (.cells [v,vi k])/\((k<=8000/\r=.ret (.tup []))\/(8000<k/\r=.pan (Y5 2)))
theorem Rb(bm:Nat)(v:AV)(k n:Int)(S:Store)(hv:v.one=true)(h0:0<=k)(hk:k<=1000000)(hn:0<=n)(hn2:n<=1000000)(g:S.get bm=some (.cells [v,vi k])):Zh nC 116 [.val (.pointer (some ⟨bm,0,none⟩)),vi n] S (CtR bm v (k+n) S):=by
 have w:IntKind.i64.wrap (k+n)=k+n:=Zk xh xh
 have g2:(S.set bm (.cells [v,vi (k+n)])).get bm=some (.cells [v,vi (k+n)]):=Zd g
 refine Zb [] [] Tryz.func116 rfl xy ?_;rw[Tryz.ntmps116,Tryz.results116]
 try simp only[go_sem,seval,g,w,g2,hv]
 refine VR (fun h=>?_) (fun h=>?_)
 ·refine uw ?_
  exact .mk (.refl _) (.refl _) ⟨rfl,.inl ⟨by simpa using h,rfl⟩⟩
 ·refine uw ?_
  exact .mk (.refl _) ⟨rfl,.inr ⟨by simpa using h,rfl⟩⟩
open Go.Proofs
theorem V2(l m:List Int)(r1 r2:Rt)(s1 s2:Nat)(h1:s1=1\/l=[])(h2:s2=1\/m=[]):Pur nC 19 [.list r1 s1 (Zu l),.list r2 s2 (Zu m)] (vb (decide (l=m))):=by
 intro σ
 refine Zh.ok xy (fun hok=>?_)
 have hl:=(hok _ ir).len
 rw[Z9] at hl
 clear hok
 refine Zb [] [(6,8,0)] Tryz.func19 rfl xy ?_;rw[Tryz.ntmps19,Tryz.results19]
 refine wv ?_
 by_cases hlm:l.length=m.length
 ·have e1:(((l.length:Nat):Int)=((m.length:Nat):Int))=True:=iS xh
  try simp only[go_sem,seval,Z9,e1,iT]
  refine Zp (mu:=[]) (dr:=[(6,8,0)]) [4,5,11,12,13,14,15,16,17,18,19,20,21,22,23,24,25] (fun i:Nat=>[(5,vi i)]) (fun _=>σ) (fun i=>i<=l.length/\l.take i=m.take i) (fun i=>l.length-i) 0 xy ⟨by omega,rfl⟩ ⟨.refl _,trivial⟩ (.refl _) ?_
  rintro i ⟨i1,i2⟩
  refine wv ?_
  refine⟨fun h3=>?_,fun h3=>?_⟩
  ·have hs1:s1=1:=by
    rcases h1 with h|h
    ·exact h
    ·rw[h] at h3;simp at h3;omega
   have hs2:s2=1:=by
    rcases h2 with h|h
    ·exact h
    ·rw[h] at hlm;simp only[im] at hlm;omega
   refine⟨by rw[hs1],by omega,by omega,fun c hc=>?_⟩
   rw[iF] at hc
   obtain⟨a,ha,rfl⟩:=Yi hc
   refine wv ?_
   refine⟨by rw[hs2],by omega,by omega,fun c hc=>?_⟩
   rw[iF] at hc
   obtain⟨b,hb,rfl⟩:=Yi hc
   refine uw ?_
   have hst:l.take (i+1)=m.take (i+1)↔a=b:=by
    rw[jh,jh,ha,hb,i2];simp
   by_cases hab:a=b
   ·have q1:(a=b)=True:=iS hab
    try simp only[go_sem,seval,q1,iT]
    first
     | (rw[show IntKind.i64.wrap ((i:Int)+1)=((i+1:Nat):Int) from Zk xh xh]
        exact .mk (i+1) ⟨by omega,hst.2 hab⟩ xh ⟨.refl _,trivial⟩ yS (.refl _))
     | (refine⟨fun h=>absurd hab h,fun _=>?_⟩
        refine uR ?_
        exact .mk (i+1) ⟨by omega,hst.2 hab⟩ xh ⟨.refl _,trivial⟩ yS (.refl _))
   ·have q1:(a=b)=False:=iU hab
    try simp only[go_sem,seval,q1,iV]
    have:l≠m:=fun e=>hab (hst.1 (by rw[e]))
    first
     | exact Zs (by simp[this])
     | exact⟨fun _=>Zs (by simp[this]),fun h=>absurd h hab⟩
  ·refine uw ?_
   refine Zs ?_
   rw[iW xh,iW xh] at i2
   simp[i2]
 ·have e1:(((l.length:Nat):Int)=((m.length:Nat):Int))=False:=iU xh
  try simp only[go_sem,seval,Z9,e1,iV]
  refine Zs ?_
  have:l≠m:=fun e=>hlm (by rw[e])
  simp[this]
end Go.Vx
end
section
namespace Go.Vx
open Go Go.Proofs
def Cvs(w:nH)(a:List AV)(cs:List nG):Prop:=a.length=cs.length/\∀ (i:Nat) (c:AV) (v:nG),a[i]?=some c->cs[i]?=some v->v.oneCell'=true/\V (live []) w c v
theorem MO{b o:Nat}:¬ live [] b o:=fun⟨x,h,_⟩=>by cases h
theorem Cvs.nil{w:nH}:Cvs w [] []:=⟨rfl,fun i c v h=>by simp at h⟩
theorem Cvs.one{w:nH}{c:AV}{v:nG}(h1:v.oneCell'=true)(h:V (live []) w c v):Cvs w [c] [v]:=⟨rfl,fun i c' v' hc hv=>by
 match i with
 | 0=>simp at hc hv;subst hc;subst hv;exact⟨h1,h⟩
 | i+1=>simp at hc⟩
theorem Cvs.app{w:nH}{a b:List AV}{cs:List nG}{n:Nat}(hn:n<=cs.length)(ha:Cvs w a (cs.take n))(hb:Cvs w b (cs.drop n)):Cvs w (a++b) cs:=by
 have la:a.length=n:=by rw[ha.1,ip];omega
 have lb:b.length=cs.length-n:=by rw[hb.1,iP]
 refine⟨by rw[ii];omega,fun i c v hc hv=>?_⟩
 by_cases hi:i<n
 ·rw[jU xh] at hc
  exact ha.2 i c v hc (by rw[lA,gZ hi];exact hv)
 ·rw[jT xh,la] at hc
  exact hb.2 (i-n) c v hc (by rw[ku,show n+(i-n)=i by omega];exact hv)
def Seg{X:Type}(P:nE)(r:nF->List nG->nM X):List nF->List nG->List X->Prop
 | [],cs,xs=>cs=[]/\xs=[]
 | t::ts,cs,xs=>∃ x xs',xs=x::xs'/\P.cellsOf t<=cs.length/\r t (cs.take (P.cellsOf t))=some x/\Seg P r ts (cs.drop (P.cellsOf t)) xs'
def V7(P:nE):Nat->List Field->Nat->Bool
 | o,[],e=>o == e
 | o,f::r,e=>f.offset == o&&V7 P (o+P.cellsOf f.type) r e
theorem Oj(P:nE):∀ (fs:List Field) (o e:Nat),V7 P o fs e=true->o<=e
 | [],o,e,h=>by simp[V7] at h;omega
 | f::r,o,e,h=>by
   simp only[V7,kJ] at h
   have:=Oj P r _ _ h.2;omega
theorem Fe{X:Type}(P:nE)(r:nF->List nG->nM X):∀ (fs:List Field) (o:Nat) (cs:List nG) (xs:List X),V7 P o fs cs.length=true->xs.length=fs.length ->
 (∀ (i:Nat) (f:Field),fs[i]?=some f->r f.type ((cs.drop f.offset).take (P.cellsOf f.type))=xs[i]?)->Seg P r (fs.map (·.type)) (cs.drop o) xs
 | [],o,cs,xs,ho,hl,_=>by
   simp only[V7,beq_iff_eq] at ho
   refine⟨?_,List.length_eq_zero_iff.1 hl⟩
   rw[ho];simp
 | f::r',o,cs,[],ho,hl,h=>by simp at hl
 | f::r',o,cs,x::xs,ho,hl,h=>by
   simp only[V7,kJ,beq_iff_eq] at ho
   have h0:=h 0 f rfl
   rw[ho.1] at h0
   have hle:=Oj P _ _ _ ho.2
   refine⟨x,xs,rfl,by rw[iP];show P.cellsOf f.type<=_;omega,by simpa using h0,?_⟩
   rw[List.drop_drop]
   exact Fe P r r' _ cs xs ho.2 xL fun i f' hf=>by simpa using h (i+1) f' (by simpa using hf)
def Rd{T:Type}(w:nH)(n:Nat)(t:nF)(emb:T->List AV)(cost:T->Nat):Prop :=
 ∀ (H:Type) (enc:nF×nG->H) (sp:Nat->Bool) (fuel:Nat),fuel<n->∀ (cs:List nG) (x:DataW H×List MemPlace),DataW.trod enc nC w 0 sp true fuel t cs=some x ->
   Go.Proofs.YtllgjklcpieanaaGreatDoor.Rows.uptoBulk x.1<=1048576->∃ a:T,Cvs w (emb a) cs/\cost a<Go.Proofs.YtllgjklcpieanaaGreatDoor.Rows.uptoBulk x.1
def RdL{T:Type}(w:nH)(n:Nat)(ts:List nF)(emb:T->List AV)(cost:T->Nat):Prop :=
 ∀ (H:Type) (enc:nF×nG->H) (sp:Nat->Bool) (fuel:Nat),fuel<n->∀ (cs:List nG) (xs:List (DataW H×List MemPlace)),Seg nC (DataW.trod enc nC w 0 sp true fuel) ts cs xs ->
   Go.Proofs.YtllgjklcpieanaaGreatDoor.Rows.uptoBulkAll (xs.map (·.1))<=1048576->∃ a:T,Cvs w (emb a) cs/\cost a<=Go.Proofs.YtllgjklcpieanaaGreatDoor.Rows.uptoBulkAll (xs.map (·.1))
section
variable {w:nH} {n:Nat} {t:nF}
open Go.Proofs.YtllgjklcpieanaaGreatDoor.Rows (uptoBulk uptoBulkAll)
theorem Dc{H:Type}(d:DataW H):1<=uptoBulk d:=by
 cases d with
 | lit l=>cases l<;>simp[uptoBulk]
 | nil=>simp[uptoBulk]
 | ptr d=>simp[uptoBulk]
 | slice elems spare=>simp[uptoBulk]
 | agg parts=>simp[uptoBulk]
 | iface t d=>simp[uptoBulk]
 | map entries=>simp[uptoBulk]
 | held h=>simp[uptoBulk]
theorem Ly{H:Type}:∀ {l:List (DataW H)} {i:Nat} {d:DataW H},l[i]?=some d->uptoBulk d<=uptoBulkAll l
 | [],i,d,h=>by simp at h
 | x::r,0,d,h=>by simp at h;subst h;simp only[uptoBulkAll];omega
 | x::r,i+1,d,h=>by
   have:=Ly (l:=r) (i:=i) xJ
   simp only[uptoBulkAll];omega
theorem Lx{H:Type}:∀ l:List (DataW H),l.length<=uptoBulkAll l
 | []=>by simp[uptoBulkAll]
 | x::r=>by have:=Dc x;have:=Lx r;simp only[uptoBulkAll,ij];omega
theorem Rd.mono{T:Type}{emb:T->List AV}{cost:T->Nat}{m:Nat}(h:Rd w n t emb cost)(hm:m<=n):Rd w m t emb cost :=
 fun H enc sp fuel hf=>h H enc sp fuel xh
theorem Rd.map{T T':Type}{emb:T->List AV}{cost:T->Nat}{emb':T'->List AV}{cost':T'->Nat}(f:T->T')(h:Rd w n t emb cost)(he:∀ a,emb' (f a)=emb a)(hc:∀ a,cost' (f a)<=cost a):Rd w n t emb' cost':=by
 intro H enc sp fuel hf cs x hx hb
 obtain⟨a,h1,h2⟩:=h H enc sp fuel hf cs x hx hb
 exact⟨f a,by rw[he];exact h1,mE (hc a) h2⟩
theorem Rd.int(ht:nC.underlying t=some (.int .i64)):Rd w n t (fun k:Int=>[vi k]) (fun _=>0):=by
 intro H enc sp fuel _ cs x hx _
 obtain⟨k,rfl,rfl,_⟩:=DataW.trod_int ht hx
 exact sW
theorem Rd.bool(ht:nC.underlying t=some .bool):Rd w n t (fun k:Bool=>[vb k]) (fun _=>0):=by
 intro H enc sp fuel _ cs x hx _
 obtain⟨k,rfl,rfl⟩:=DataW.trod_bool ht hx
 exact sW
theorem Rd.str(ht:nC.underlying t=some .string):Rd w n t (fun k:Str=>[vs k]) (fun _=>0):=by
 intro H enc sp fuel _ cs x hx _
 obtain⟨k,rfl,rfl,_⟩:=DataW.trod_string ht hx
 exact sW
theorem RdL.nil:RdL w n [] (fun _:Unit=>[]) (fun _=>0):=by
 intro H enc sp fuel _ cs xs hx _
 obtain⟨rfl,rfl⟩:=hx
 exact⟨(),.nil,by simp[uptoBulkAll]⟩
theorem RdL.cons{T U:Type}{ts:List nF}{e:T->List AV}{c:T->Nat}{e':U->List AV}{c':U->Nat}(h:Rd w n t e c)(h':RdL w n ts e' c'):RdL w n (t::ts) (fun a:T×U=>e a.1++e' a.2) (fun a=>c a.1+1+c' a.2):=by
 intro H enc sp fuel hf cs xs hx hb
 obtain⟨x,xs',rfl,hl,h1,h2⟩:=hx
 simp only[iR,uptoBulkAll] at hb ⊢
 obtain⟨a,a1,a2⟩:=h H enc sp fuel hf _ x h1 xh
 obtain⟨b,b1,b2⟩:=h' H enc sp fuel hf _ xs' h2 xh
 exact⟨(a,b),.app hl a1 b1,by simp only;omega⟩
theorem RdL.struct{T:Type}{ts:List nF}{fs:nN Field}{emb:T->List AV}{cost:T->Nat}(ht:nC.underlying t=some (.struct fs))(hts:fs.toList.map (·.type)=ts)
 (ho:V7 nC 0 fs.toList (nC.cellsOf t)=true) (h:RdL w n ts emb cost):Rd w (n+1) t emb cost:=by
 intro H enc sp fuel hf cs x hx hb
 obtain⟨xs,m,rfl,rfl,hl,hn,hg⟩:=DataW.trod_struct ht hx
 have hs:=Fe nC (DataW.trod enc nC w 0 sp true m) fs.toList 0 cs xs (by rw[hl];exact ho) (by simpa using hn) (fun i f hf=>hg i f (by simpa using hf))
 rw[hts] at hs
 simp only[uptoBulk] at hb ⊢
 obtain⟨a,a1,a2⟩:=h H enc sp m xh cs xs (by simpa using hs) xh
 exact⟨a,a1,by omega⟩
theorem Rd.mk{T U:Type}{ts:List nF}{fs:nN Field}{emb:T->List AV}{cost:T->Nat}{emb':U->List AV}{cost':U->Nat}(f:T->U)(ht:nC.underlying t=some (.struct fs))(hts:fs.toList.map (·.type)=ts)
 (ho:V7 nC 0 fs.toList (nC.cellsOf t)=true) (h:RdL w n ts emb cost) (he:∀ a,emb' (f a)=emb a) (hc:∀ a,cost' (f a)<=cost a):Rd w (n+1) t emb' cost' :=
 (RdL.struct ht hts ho h).map f he hc
theorem FQ{T:Type}{Q:Nat->T->Prop}:∀ n:Nat,(∀ i,i<n->∃ a,Q i a)->∃ l:List T,l.length=n/\∀ i a,l[i]?=some a->Q i a
 | 0,_=>⟨[],rfl,fun i a h=>by simp at h⟩
 | n+1,h=>by
   obtain⟨l,h1,h2⟩:=FQ n (fun i hi=>h i xh)
   obtain⟨a,ha⟩:=h n xh
   refine⟨l++[a],by simp[h1],fun i b hb=>?_⟩
   by_cases hi:i<n
   ·rw[jU xh] at hb
    exact h2 i b hb
   ·have:i=n:=by
     have:=List.getElem?_eq_some_iff.1 hb
     obtain⟨h3,_⟩:=this
     simp only[ii,iq] at h3;omega
    subst this
    rw[jT xh,h1,lH] at hb
    simp at hb;subst hb;exact ha
theorem OP{w:nH}{a:Addr}{n:Nat}{cs:List nG}(h:w.cells? 0 a n=some cs)(hn:0<n):a.spot=none/\cs.length=n/\∀ j,j<n->w.cell? ⟨a.block,a.off+j,none⟩=cs[j]?:=by
 unfold World.cells? at h
 rw[gZ (mS _)] at h
 have hl:=mapM_some_length h
 have hg:=mapM_some_get h
 have h0:=hg 0 0 (by rw[lB hn])
 have hspot:a.spot=none:=by
  cases hs:a.spot with
  | none=>rfl
  | some s =>
    have:(0:Nat)<cs.length:=by rw[hl];simpa using hn
    rw[iO this] at h0
    simp only[Addr.add,gZ,World.cell?] at h0
    split at h0
    ·simp[hs] at h0
    ·cases h0
 refine⟨hspot,by simpa using hl,fun j hj=>?_⟩
 rw[<- hg j j (by rw[lB hj])]
 unfold Addr.add
 split
 ·rename_i h;subst h;cases a;simp at hspot;subst hspot;rfl
 ·rfl
def NR(w:nH)(b o j:Nat):nG:=match w.cell? ⟨b,o+j,none⟩ with|some v=>v|none=>.bool false
theorem Rd.slice{T:Type}{et:nF}{emb:T->List AV}{cost:T->Nat}{sz:Nat}(ht:nC.underlying t=some (.slice et))(hc:nC.cellsOf et=sz)(hz:0<sz)(h:Rd w n et emb cost) :
 Rd w (n+1) t (fun l:List T=>[.list .none sz (l.map emb)]) (fun l=>(l.map fun a=>cost a+1).sum):=by
 intro H enc sp fuel hf cs x hx hb
 rcases DataW.trod_slice ht hx with⟨rfl,rfl⟩|⟨a,len,cap,elems,rest,m,rfl,rfl,rfl,_,hlc,hcm,hel,hget,_,_⟩
 ·refine⟨[],.one rfl ?_,by simp[uptoBulk]⟩
  exact V.list (L:=live []) (w:=w) .none sz [] 0 none 0 0 (fun _=>.bool false) xf xf (fun i e h=>by simp at h) (fun h=>absurd rfl h) trivial (fun i e j c h=>by simp at h) (fun i e j c h=>by simp at h)
 ·simp only[uptoBulk] at hb ⊢
  have hlen:=Lx (elems.map (·.1))
  rw[io] at hlen
  have one:∀ i,i<len->∃ a',∃ (cs':List nG) (y:DataW H×List MemPlace),elems[i]?=some y/\w.cells? 0 (a.add (i * sz)) sz=some cs'/\Cvs w (emb a') cs'/\cost a'<uptoBulk y.1:=by
   intro i hi
   have hg:=hget i hi
   rw[iO xh,hc] at hg
   rw[lz] at hg
   obtain⟨cs',h1,h2⟩:=hg
   have hle:=Ly (l:=elems.map (·.1)) (i:=i) (d:=elems[i].1) (by rw[jp,iO xh];rfl)
   obtain⟨a',a1,a2⟩:=h H enc sp m xh cs' _ h2 xh
   exact⟨a',cs',_,iO xh,h1,a1,a2⟩
  obtain⟨l,hl,hl2⟩:=FQ len one
  have hcost:(l.map fun a=>cost a+1).sum<=uptoBulkAll (elems.map (·.1)):=by
   have:∀ (l:List T) (es:List (DataW H×List MemPlace)),l.length=es.length->(∀ (i:Nat) (a:T),l[i]?=some a->∃ y:DataW H×List MemPlace,es[i]?=some y/\cost a<uptoBulk y.1)->(l.map fun a=>cost a+1).sum<=uptoBulkAll (es.map (·.1)):=by
    intro l
    induction l with
    | nil=>intro es _ _;simp
    | cons b r ih =>
      intro es he hh
      match es,he with
      | y::es,he =>
        obtain⟨y',e1,e2⟩:=hh 0 b rfl
        simp at e1;subst e1
        have:=ih es xN (fun i a ha=>by simpa using hh (i+1) a xR)
        simp only[iR,List.sum_cons,uptoBulkAll]
        omega
   exact this l elems xh fun i a' ha=>by obtain⟨_,y,e1,_,_,e2⟩:=hl2 i a' ha;exact⟨y,e1,e2⟩
  refine⟨l,.one rfl ?_,by omega⟩
  have addr:∀ i a',l[i]?=some a'->a.spot=none/\(emb a').length=sz/\∀ j c,(emb a')[j]?=some c->∃ v,w.cell? ⟨a.block,a.off+(i * sz+j),none⟩=some v/\v.oneCell'=true/\V (live []) w c v:=by
   intro i a' ha
   obtain⟨cs',y,_,h1,h2,_⟩:=hl2 i a' ha
   obtain⟨g1,g2,g3⟩:=OP h1 hz
   have hb:(a.add (i * sz)).block=a.block/\(a.add (i * sz)).off=a.off+i * sz/\(i * sz=0->(a.add (i * sz)).spot=a.spot):=by
    unfold Addr.add;split
    ·rename_i h;exact⟨rfl,by omega,fun _=>rfl⟩
    ·rename_i h;exact⟨rfl,rfl,fun h'=>absurd h' h⟩
   refine⟨?_,by rw[h2.1,g2],fun j c hj=>?_⟩
   ·obtain⟨cs0,y0,_,h10,_,_⟩:=hl2 0 (l[0]'(mE (mS i) (List.getElem?_eq_some_iff.1 ha).1)) (iO (mE (mS i) (List.getElem?_eq_some_iff.1 ha).1))
    obtain⟨g10,_,_⟩:=OP h10 hz
    simpa[Addr.add] using g10
   ·have hjs:j<sz:=by rw[<- g2,<- h2.1];exact(List.getElem?_eq_some_iff.1 hj).1
    have e:=g3 j hjs
    rw[hb.1,hb.2.1] at e
    have hjc:j<cs'.length:=by rw[g2];exact hjs
    obtain⟨v,hv⟩:∃ v,cs'[j]?=some v:=⟨_,iO hjc⟩
    refine⟨v,by rw[<- hv,<- e,jV],h2.2 j c v hj hv⟩
  have key:=V.list (L:=live []) (w:=w) .none sz (l.map emb) cap (some a) a.block a.off (NR w a.block a.off) (by rw[io];omega) (by rw[io];unfold lim;omega)
   (fun i e he=>by obtain⟨a',h1,rfl⟩:=Yi he;exact(addr i a' h1).2.1)
   (fun hne=>by
    cases l with
    | nil=>simp at hne
    | cons b r =>
      have:=(addr 0 b rfl).1
      cases a;simp at this;subst this;rfl) trivial
   (fun i e j c he hj=>by
    obtain⟨a',h1,rfl⟩:=Yi he
    obtain⟨v,v1,v2,_⟩:=(addr i a' h1).2.2 j c hj
    refine⟨MO,?_,?_⟩
    ·simp only[NR,v1]
    ·simp only[NR,v1,v2])
   (fun i e j c he hj=>by
    obtain⟨a',h1,rfl⟩:=Yi he
    obtain⟨v,v1,_,v3⟩:=(addr i a' h1).2.2 j c hj
    simp only[NR,v1];exact v3)
  rw[io,hl] at key
  exact key
end
open Go.Proofs
theorem gQ{l:List Ty}{i:Nat}{x:Ty}(h:l[i]?=some x):(cI l)[i]?=some x.emb:=by rw[di,jp,h];rfl
theorem eZ{l:List Tm}{i:Nat}{x:Tm}(h:l[i]?=some x):(cJ l)[i]?=some x.emb:=by rw[cW,jp,h];rfl
theorem fJ{l:List Pf}{i:Nat}{x:Pf}(h:l[i]?=some x):(dB l)[i]?=some x.emb:=by rw[ew,jp,h];rfl
theorem fT{l:List Tu}{i:Nat}{x:Tu}(h:l[i]?=some x):(dM l)[i]?=some x.emb:=by rw[eu,jp,h];rfl
theorem fV{l:List Mv}{i:Nat}{x:Mv}(h:l[i]?=some x):(ec l)[i]?=some x.emb:=by rw[ec,jp,h];rfl
theorem SV(t:Tm):Pur nC 35 [.agg t.emb,.agg t.emb] (vb true):=by
 induction t using ed with|h k n s l ih=>?_
 intro σ
 refine Zh.ok xy (fun hok=>?_)
 have hl:=((hok _ ir).agg (c:=.list .none 4 (cJ l)) xw).len
 rw[cF] at hl
 clear hok
 simp only[cO]
 refine Zb [] [(6,10,0)] Tryz.func35 rfl xy ?_;rw[Tryz.ntmps35,Tryz.results35]
 try simp only[go_sem,seval,cF,eq_self,iT,jA]
 refine Zp (mu:=[]) (dr:=[(6,10,0)]) [4,5,34,35,36,37,38,39,40,41,42,43,44,45,46,47,48,49,50,51,52] (fun i:Nat=>[(5,vi i)]) (fun _=>σ) (fun i=>i<=l.length) (fun i=>l.length-i) 0 xy xh ⟨.refl _,trivial⟩ (.refl _) ?_
 intro i hi
 try simp only[go_sem,seval,cF]
 refine⟨fun h1=>?_,fun h1=>?_⟩
 ·obtain⟨x,hx⟩:∃ x,l[i]?=some x:=⟨_,iO xh⟩
  have g:=eZ hx
  refine uB fun x0=>?_
  have x1:((i:Int)<l.length)=True:=iS xh
  have hc:=ih x (iG hx)
  exact tX
 ·exact oG
theorem Kh(l:List Tm):Pur nC 74 [.list .none 4 (cJ l),.list .none 4 (cJ l)] (vb true):=by
 intro σ
 refine Zh.ok xy (fun hok=>?_)
 have hl:=(hok _ ir).len
 rw[cF] at hl
 clear hok
 refine Zb [] [(6,8,0)] Tryz.func74 rfl xy ?_;rw[Tryz.ntmps74,Tryz.results74]
 try simp only[go_sem,seval,cF,eq_self,iT,jA]
 refine Zp (mu:=[]) (dr:=[(6,8,0)]) [4,5,11,12,13,14,15,16,17,18,19,20,21,22,23,24,25,26] (fun i:Nat=>[(5,vi i)]) (fun _=>σ) (fun i=>i<=l.length) (fun i=>l.length-i) 0 xy xh ⟨.refl _,trivial⟩ (.refl _) ?_
 intro i hi
 try simp only[go_sem,seval,cF]
 refine⟨fun h1=>?_,fun h1=>?_⟩
 ·obtain⟨x,hx⟩:∃ x,l[i]?=some x:=⟨_,iO xh⟩
  have g:=eZ hx
  refine uB fun x0=>?_
  have x1:((i:Int)<l.length)=True:=iS xh
  have hc:=SV x
  exact tX
 ·exact oG
end Go.Vx
end
section
namespace Go.Vx
open Go Go.Proofs
variable {w:nH}
theorem Mh{α:Type}(l:List α):(l.map fun _=>0+1).sum=l.length:=by
 induction l with
 | nil=>rfl
 | cons a r ih=>simp only[iR,List.sum_cons,ij,ih];omega
theorem PC(n:Nat):Rd w n 3 (fun k:Int=>[vi k]) (fun _=>0):=.int xy
theorem cn(n:Nat):Rd w n 4 (fun k:Bool=>[vb k]) (fun _=>0):=.bool xy
theorem Ck(n:Nat):Rd w n 9 (fun k:Str=>[vs k]) (fun _=>0):=.str xy
theorem J9(n:Nat):Rd w n 23 (fun l:List Int=>[.list .none 1 (Zu l)]) (fun l=>l.length) :=
 ((Rd.slice (sz:=1) Tryz.underlying23 xy xj (PC n)).mono (lk n)).map (fun l=>l) (fun l=>rfl) (fun l=>mC (Mh l).symm)
theorem bK(n:Nat):Rd w n 26 (fun l:List Bool=>[.list .none 1 (Uv l)]) (fun _=>0) :=
 ((Rd.slice (sz:=1) Tryz.underlying26 xy xj (cn n)).mono (lk n)).map (fun l=>l) (fun l=>rfl) (fun l=>mS _)
theorem Fp:∀ n,Rd w n 54 Ty.emb (fun _=>0)
 | 0=>fun H enc sp fuel h=>absurd h (mT _)
 | n + 1=>Rd.mk (fun a:Str×List Ty×Unit=>Ty.mk a.1 a.2.1) (ts:=[9,22]) Tryz.underlying54 xy xy
     (.cons (Ck n) (.cons ((Rd.slice (sz:=2) (et:=54) xy xy xj (Fp n)).mono (lk n)) .nil))
     (fun⟨s,l,_⟩=>by simp only[cQ,di];rfl) (fun _=>mS _)
theorem Fo(n:Nat):Rd w n 22 (fun l:List Ty=>[.list .none 2 (cI l)]) (fun l=>l.length) :=
 ((Rd.slice (sz:=2) Tryz.underlying22 xy xj (Fp n)).mono (lk n)).map (fun l=>l) (fun l=>by rw[di]) (fun l=>mC (Mh l).symm)
theorem J8:∀ n,Rd w n 99 Tm.emb (fun _=>0)
 | 0=>fun H enc sp fuel h=>absurd h (mT _)
 | n + 1=>Rd.mk (fun a:Int×Int×Str×List Tm×Unit=>Tm.mk a.1 a.2.1 a.2.2.1 a.2.2.2.1) (ts:=[3,3,9,24]) Tryz.underlying99 xy xy
     (.cons (PC n) (.cons (PC n) (.cons (Ck n) (.cons ((Rd.slice (sz:=4) (et:=99) xy xy xj (J8 n)).mono (lk n)) .nil))))
     (fun⟨k,m,s,l,_⟩=>by simp only[cO,cW];rfl) (fun _=>mS _)
theorem O7(n:Nat):Rd w n 24 (fun l:List Tm=>[.list .none 4 (cJ l)]) (fun _=>0) :=
 ((Rd.slice (sz:=4) Tryz.underlying24 xy xj (J8 n)).mono (lk n)).map (fun l=>l) (fun l=>by rw[cW]) (fun l=>mS _)
mutual
def glC:Zi->Nat
 | .mk _ _ _ _ l _ _ _=>glCs l
def glCs:List Zi->Nat
 | []=>0
 | x::r=>glC x+1+glCs r
end
theorem L8:∀ l:List Zi,(l.map fun a=>glC a+1).sum=glCs l
 | []=>rfl
 | a::r=>by simp only[iR,List.sum_cons,glCs,L8 r]
def clC(c:Zr):Nat:=c.vars.length+c.locals.length+glCs c.goals+7
theorem Ia:∀ n,Rd w n 82 Zi.emb glC
 | 0=>fun H enc sp fuel h=>absurd h (mT _)
 | n + 1=>Rd.mk (fun a:Int×Str×List Tm×Ty×List Zi×Int×Int×List Int×Unit=>Zi.mk a.1 a.2.1 a.2.2.1 a.2.2.2.1 a.2.2.2.2.1 a.2.2.2.2.2.1 a.2.2.2.2.2.2.1 a.2.2.2.2.2.2.2.1)
     (ts:=[3,9,24,54,25,3,3,23]) Tryz.underlying82 xy xy
     (.cons (PC n) (.cons (Ck n) (.cons (O7 n) (.cons (Fp n) (.cons ((Rd.slice (sz:=9) (et:=82) xy xy xj (Ia n)).mono (lk n)) (.cons (PC n) (.cons (PC n) (.cons (J9 n) .nil))))))))
     (fun⟨k,s,l,⟨ts,tl⟩,gl,m,g,e,_⟩=>by simp only[cV,dP,cQ];rfl) (fun⟨k,s,l,t,gl,m,g,e,_⟩=>by simp only[glC,L8];omega)
theorem Fq(n:Nat):Rd w n 25 (fun l:List Zi=>[.list .none 9 (cY l)]) glCs :=
 ((Rd.slice (sz:=9) Tryz.underlying25 xy xj (Ia n)).mono (lk n)).map (fun l=>l) (fun l=>by rw[dP]) (fun l=>mC (L8 l).symm)
theorem IY:∀ n,Rd w n 28 Zr.emb clC
 | 0=>fun H enc sp fuel h=>absurd h (mT _)
 | n + 1=>Rd.mk (fun a:List Ty×List Ty×List Int×Str×List Tm×List Zi×List Bool×Unit=>Zr.mk a.1 a.2.1 a.2.2.1 a.2.2.2.1 a.2.2.2.2.1 a.2.2.2.2.2.1 a.2.2.2.2.2.2.1)
     (ts:=[22,22,23,9,24,25,26]) Tryz.underlying28 xy xy
     (.cons (Fo n) (.cons (Fo n) (.cons (J9 n) (.cons (Ck n) (.cons (O7 n) (.cons (Fq n) (.cons (bK n) .nil)))))))
     (fun _=>rfl) (fun⟨v,l,p,s,a,g,b,_⟩=>by simp only[clC];omega)
open Go Go.Proofs Go.ChangeShapes Go.WideShapes Go.RowKit
theorem CN:laidOutB nC=true:=by kernel_rfl
theorem Ev.below{W W':nH}(h:Ev [] W [] W'):Below W.heap.size W W':=⟨h.os,h.tape,h.output,h.size,fun k hk=>h.obj k hk (fun o=>MO)⟩
theorem Tx{H:Type}{enc:nF×nG->H}{W W':nH}{sp:Nat->Bool}:∀ {ts:List nF} {vs:List nG} {ds:List (DataW H)} {p:List MemPlace},(∀ t∈ts,nC.readableRec t=true/\t<nC.types.size) ->
 DataW.TrodAll enc nC W 0 (fun _=>true) true ts vs ds p->(∀ q∈p,W.sameAt W' q)->(∀ q∈p,sp q.block=true)->DataW.TrodAll enc nC W' 0 sp true ts vs ds p
 | [],_,_,_,_,h,_,_=>by obtain⟨rfl,rfl,rfl⟩:=trodAll_nil h;exact trodAll_mk0
 | t::ts,_,_,_,hr,h,h1,h2=>by
   obtain⟨v,vs',d,ds',p,q,rfl,rfl,rfl,h3,h4⟩:=trodAll_cons h
   have ht:=hr t ir
   exact trodAll_cons_mk (WideElems.Trod_stays CN ht.1 ht.2 h3 (fun x hx=>h1 x (my _ hx)) (fun x hx=>h2 x (my _ hx)))
    (Tx (fun u hu=>hr u (kR _ hu)) h4 (fun x hx=>h1 x (mU _ hx)) (fun x hx=>h2 x (mU _ hx)))
set_option maxRecDepth 100000 in
theorem FZ{H:Type}{enc:nF×nG->H}{f:Func}{s:ChangeSpec}{W W':nH}{args:nN nG}{ds gs:List (DataW H)}{before:List MemPlace}
 (hW:DataW.Whole enc nC f.params.toList s.vars false W args.toList ds gs before) (hsv:s.vars=[]) (hres:f.resultTypes=#[4])
 (hpar:∀ t∈f.params.toList,nC.readableRec t=true/\t<nC.types.size)
 (hs:s.fn H (ds++gs)={ results:=[.lit (.bool true)],args:=ds }) (hev:Ev [] W [] W'):s.post enc nC f false true false false W args (.bool true) W':=by
 have hb:=hev.below
 have hlt:∀ p∈before,p.block<W.heap.size:=fun p hp=>by simpa using hW.lt p hp
 have hold:∀ p∈before,(fun b=>decide (b<W.heap.size)) p.block=true:=fun p hp=>by simpa using hlt p hp
 have hW':=hW
 obtain⟨p,q,hA,hV,rfl,hz,hn⟩:=hW
 rw[hsv] at hV
 obtain⟨rfl,rfl⟩:=trodVars_none hV
 simp only[kh] at hlt hold hz hW' hs
 have hargs:∀ sp:Nat->Bool,(∀ x∈p,sp x.block=true)->DataW.TrodAll enc nC W' 0 sp true f.params.toList args.toList ds p :=
  fun sp hsp=>Tx hpar hA (fun x hx=>hb.same (hlt x hx)) hsp
 have hrs:∀ (b:Nat) (sp:Nat->Bool) (hd:Bool),DataW.TrodAll enc nC W' b sp hd f.resultTypes.toList ((Value.bool true).resultList f.resultTypes.size) [.lit (.bool true)] []:=by
  intro b sp hd
  rw[hres]
  exact trodAll_mk1 (shut_bool Tryz.underlying4 true)
 have hok:∀ (j:Nat) (t:nF) (r:nG),f.resultTypes[j]?=some t->((Value.bool true).resultList f.resultTypes.size)[j]?=some r->Value.okWide nC W' .any 0 t r:=ok_one hres rfl (okWide_bool_mk Tryz.underlying4 true)
 refine⟨ds,[],p,[],p,[],hW',?_,?_,?_,?_,fun _=>?_⟩
 ·simp only[kh,hs];exact hrs _ _ _
 ·simp only[kh,hs];exact hargs _ hold
 ·simp only[kh,hs,hsv];exact rfl
 ·exact World.keptBut_mono (fun x hx=>⟨hx,Or.inr (Or.inl hx)⟩) (hb.frame (·∈p))
 ·refine⟨hok,_,[],([]++p)++[],⟨[]++p,[],trodAll_append (hargs _ (fun _ _=>rfl)) (hrs _ _ _),?_,rfl,?_,?_⟩,?_⟩
  ·rw[hsv];exact rfl
  ·intro b off hp
   have hp':MemPlace.cell b off∈p:=by simpa using hp
   rw[hb.frozen (hlt _ hp')]
   exact hz b off hp'
  ·intro ha;cases ha
  ·intro x hx _
   simpa using hx
set_option maxRecDepth 100000 in
theorem aE{T:Type}{emb:T->List AV}{cost:T->Nat}{w:nH}{t:nF}{fs:nN Field}{H:Type}{enc:nF×nG->H}{base:Nat}{v:nG}{d:DataW H}{p:List MemPlace}(hrd:∀ n,Rd w n t emb cost)(ht:nC.underlying t=some (.struct fs))
 (hok:Value.okWide nC w .any base t v) (h:DataW.Trod enc nC w 0 (fun _=>true) true t v d p) (hb:Go.Proofs.YtllgjklcpieanaaGreatDoor.Rows.uptoBulk d<=1048576):∃ a:T,V (live []) w (.agg (emb a)) v/\cost a<Go.Proofs.YtllgjklcpieanaaGreatDoor.Rows.uptoBulk d:=by
 obtain⟨cs,rfl,hsz⟩:=okWide_struct ht hok
 obtain⟨fuel,h⟩:=h
 obtain⟨a,a1,a2⟩:=hrd (fuel+1) H enc (fun _=>true) fuel (Nat.lt_succ_self _) cs.toList (d,p) h hb
 refine⟨a,?_,a2⟩
 have:=V.agg (L:=live []) (w:=w) (emb a) cs.toList a1.1 (fun i c v hc hv=>(a1.2 i c v hc hv).2)
 simpa using this
theorem Hx{H:Type}{enc:nF×nG->H}{k:nL}{f:Func}{s:ChangeSpec}{W:nH}{args:nN nG}{ds gs:List (DataW H)}{before:List MemPlace}{avs:List AV}
 (hW:DataW.Whole enc nC f.params.toList s.vars false W args.toList ds gs before) (hsv:s.vars=[]) (hres:f.resultTypes=#[4])
 (hpar:∀ t∈f.params.toList,nC.readableRec t=true/\t<nC.types.size) (hs:s.fn H (ds++gs)={ results:=[.lit (.bool true)],args:=ds })
 (hV:Vs (live []) W avs args.toList) (hp:Pur nC k avs (vb true)) :
 Calls nC k args W fun e W'=>∃ v,e=.returned v/\s.post enc nC f false true false false W args v W':=by
 refine((hp []).2 W args ⟨by simp,by simp⟩ hV).mono fun e W' he=>?_
 cases e with
 | returned v =>
   obtain⟨av,σ',⟨h1,rfl⟩,hv,_,hev⟩:=he
   injection h1 with h1;subst h1
   cases hv
   exact⟨_,rfl,FZ hW hsv hres hpar hs hev⟩
 | panicked c=>obtain⟨pv,σ',_,⟨h1,_⟩,_⟩:=he;cases h1
 | outgrown=>exact he.elim
set_option maxRecDepth 100000 in
theorem Ik{T:Type}{emb:T->AV}{cost:T->Nat}{w:nH}{t et:nF}{H:Type}{enc:nF×nG->H}{base:Nat}{v:nG}{d:DataW H}{p:List MemPlace}(hrd:∀ n,Rd w n t (fun a=>[emb a]) cost)(ht:nC.underlying t=some (.slice et))
 (hok:Value.okWide nC w .any base t v) (h:DataW.Trod enc nC w 0 (fun _=>true) true t v d p) (hb:Go.Proofs.YtllgjklcpieanaaGreatDoor.Rows.uptoBulk d<=1048576):∃ a:T,V (live []) w (emb a) v/\cost a<Go.Proofs.YtllgjklcpieanaaGreatDoor.Rows.uptoBulk d:=by
 obtain⟨x,len,cap,rfl⟩:=okWide_slice ht hok
 obtain⟨fuel,h⟩:=h
 obtain⟨a,a1,a2⟩:=hrd (fuel+1) H enc (fun _=>true) fuel (Nat.lt_succ_self _) [.slice x len cap] (d,p) h hb
 exact⟨a,(a1.2 0 _ _ rfl rfl).2,a2⟩
end Go.Vx
end
section
namespace Go.Vx
open Go Go.Proofs Go.ChangeShapes Go.WideShapes Go.RowKit
section
variable {w:nH}
theorem bJ:∀ n,Rd w n 158 Mv.emb (fun _=>0)
 | 0=>fun H enc sp fuel h=>absurd h (mT _)
 | n + 1=>Rd.mk (fun a:Int×List Tm×List Int×Unit=>Mv.mk a.1 a.2.1 a.2.2.1) (ts:=[3,24,23]) Tryz.underlying158 xy xy
     (.cons (PC n) (.cons (O7 n) (.cons (J9 n) .nil))) (fun _=>rfl) (fun _=>mS _)
theorem B0:∀ n,Rd w n 104 Pf.emb (fun _=>0)
 | 0=>fun H enc sp fuel h=>absurd h (mT _)
 | n+1=>by
   have ih:=B0 n
   have hp:Rd w n 29 (fun l:List Pf=>[.list .none 10 (dB l)]) (fun _=>0) :=
    ((Rd.slice (sz:=10) (et:=104) xy xy xj ih).mono (lk n)).map (fun l=>l) (fun l=>by rw[ew]) (fun l=>mS _)
   have ht:Rd w (n+1) 101 Tu.emb (fun _=>0) :=
    Rd.mk (fun a:Int×Tm×List Pf×Unit=>Tu.mk a.1 a.2.1 a.2.2.1) (ts:=[3,99,29]) Tryz.underlying101 xy xy (.cons (PC n) (.cons (J8 n) (.cons hp .nil)))
     (fun⟨k,⟨tk,tn,ts,ta⟩,l,_⟩=>by simp only[fM,cO];rfl) (fun _=>mS _)
   have hts:Rd w n 31 (fun l:List Tu=>[.list .none 6 (dM l)]) (fun _=>0) :=
    ((Rd.slice (sz:=6) (et:=101) xy xy xj ht).mono xh).map (fun l=>l) (fun l=>by rw[eu]) (fun l=>mS _)
   have hmv:Rd w n 102 (fun l:List Mv=>[.list .none 3 (ec l)]) (fun _=>0) :=
    ((Rd.slice (sz:=3) (et:=158) xy xy xj (bJ n)).mono (lk n)).map (fun l=>l) (fun l=>rfl) (fun l=>mS _)
   exact Rd.mk (fun a:Int×Int×List Int×Tm×List Tu×List Mv×List Pf×Unit=>Pf.mk a.1 a.2.1 a.2.2.1 a.2.2.2.1 a.2.2.2.2.1 a.2.2.2.2.2.1 a.2.2.2.2.2.2.1)
    (ts:=[3,3,23,99,31,102,29]) Tryz.underlying104 xy xy
    (.cons (PC n) (.cons (PC n) (.cons (J9 n) (.cons (J8 n) (.cons hts (.cons hmv (.cons hp .nil)))))))
    (fun⟨k,m,u,⟨tk,tn,ts,ta⟩,sp,mv,l,_⟩=>by simp only[eP,cO];rfl) (fun _=>mS _)
theorem Ak(n:Nat):Rd w n 29 (fun l:List Pf=>[.list .none 10 (dB l)]) (fun _=>0) :=
 ((Rd.slice (sz:=10) (et:=104) xy xy xj (B0 n)).mono (lk n)).map (fun l=>l) (fun l=>by rw[ew]) (fun l=>mS _)
end
set_option maxRecDepth 100000 in
theorem Mn{H:Type}{enc:nF×nG->H}{f:Func}{s:ChangeSpec}{W:nH}{base:Nat}{args:nN nG}{ds gs:List (DataW H)}{before:List MemPlace}(hpar:f.params=#[28,24,29])(hsv:s.vars=[])
 (hval:∀ (j:Nat) t v,f.params[j]?=some t->args[j]?=some v->Value.okWide nC W .any base t v)
 (hW:DataW.Whole enc nC f.params.toList s.vars false W args.toList ds gs before) (hk:Go.Proofs.YtllgjklcpieanaaGreatDoor.Rows.uptoSmall H (ds++gs)=true) :
 ∃ (c:Zr) (l:List Tm) (q:List Pf) (d1 d2 d3:DataW H),ds=[d1,d2,d3]/\gs=[]/\Vs (live []) W [.agg c.emb,.list .none 4 (cJ l),.list .none 10 (dB q)] args.toList:=by
 have hk':Go.Proofs.YtllgjklcpieanaaGreatDoor.Rows.uptoBulkAll (ds++gs)<=1048576:=of_decide_eq_true hk
 obtain⟨p,q,hA,hV,rfl,hz,hn⟩:=hW
 rw[hsv] at hV
 obtain⟨rfl,rfl⟩:=trodVars_none hV
 rw[hpar] at hA hval
 obtain⟨v1,v2,v3,d1,d2,d3,p1,p2,p3,rfl,rfl,rfl,h1,h2,h3⟩:=trodAll_three hA
 simp only[kh,Go.Proofs.YtllgjklcpieanaaGreatDoor.Rows.uptoBulkAll] at hk'
 obtain⟨c,a1,a2⟩:=aE IY Tryz.underlying28 (hval 0 _ v1 rfl rfl) h1 xh
 obtain⟨l,b1,_⟩:=Ik O7 Tryz.underlying24 (hval 1 _ v2 rfl rfl) h2 xh
 obtain⟨q,c1,_⟩:=Ik Ak Tryz.underlying29 (hval 2 _ v3 rfl rfl) h3 xh
 refine⟨c,l,q,d1,d2,d3,rfl,rfl,rfl,fun i x v hx hv=>?_⟩
 match i with
 | 0=>simp at hx hv;subst hx;subst hv;exact a1
 | 1=>simp at hx hv;subst hx;subst hv;exact b1
 | 2=>simp at hx hv;subst hx;subst hv;exact c1
 | i+3=>simp at hx
end Go.Vx
end
