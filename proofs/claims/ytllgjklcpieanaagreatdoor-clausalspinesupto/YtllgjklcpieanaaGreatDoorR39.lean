/- A part of the proof of clausalSpinesProved. -/
import Derived.Test.YtllgjklcpieanaaGreatDoorR38
import Derived.Test.YtllgjklcpieanaaGreatDoorRGrowLay
import Derived.Shelf.Spec.SlicesGrow
set_option linter.unusedVariables false
set_option linter.unusedSimpArgs false
set_option maxRecDepth 100000
namespace Go.Vx
open Go.Proofs Go.Shelf Go.RowKit
theorem QT:∀ (l:List Int) (x:Int) (i:Nat),l[i]?=some x->(∀ j:Nat,j<i->l[j]?≠some x)->Xo l x=i
 | [],_,i,h,_=>by simp at h
 | y::r,x,0,h,_=>by simp at h;simp[Xo,h]
 | y::r,x,i+1,h,hb=>by
   have h0:y≠x:=fun e=>hb 0 xh (by simp[e])
   have:=QT r x i xJ (fun j hj=>by simpa using hb (j+1) xh)
   simp only[Xo,ig h0,this]
   rw[ig xh];omega
theorem Ri:∀ (l:List Int) (x:Int),x ∉ l->Xo l x=-1
 | [],_,_=>rfl
 | y::r,x,h=>by
   have h0:y≠x:=fun e=>h (by simp[e])
   have:=Ri r x (fun hm=>h (kR _ hm))
   simp only[Xo,ig h0,this];rfl
theorem M8{l:List Int}{x:Int}(h:x∈l):∃ i:Nat,Xo l x=i/\i<l.length/\l[i]?=some x:=by
 induction l with
 | nil=>cases h
 | cons y r ih =>
   by_cases e:y=x
   ·exact⟨0,by simp[Xo,e],by simp,by simp[e]⟩
   ·rcases List.mem_cons.1 h with e2|h
    ·exact absurd e2.symm e
    ·obtain⟨i,h1,h2,h3⟩:=ih h
     exact⟨i+1,by simp only[Xo,ig e,h1];rw[ig xh];omega,by simpa using h2,by simpa using h3⟩
theorem CZ(l:List Int)(x:Int):decide (Xo l x>=0)=l.contains x:=by
 by_cases h:x∈l
 ·obtain⟨i,h1,_,_⟩:=M8 h
  rw[h1,List.contains_iff_mem.2 h];exact jy xh
 ·rw[Ri l x h,show l.contains x=false by simpa using h];decide
theorem M7(l:List Int)(x:Int)(hl:l.length<=1000000):Pur nC 137 [.list .none 1 (Zu l),vi x] (vi (Xo l x)):=by
 intro σ
 refine Zb [] [] Tryz.func137 rfl xy ?_;rw[Tryz.ntmps137,Tryz.results137]
 refine uw ?_
 refine uP ?_
 rintro i ⟨hi,hb⟩
 refine uB fun x0=>?_
 by_cases c:i<l.length
 ·have x1:((i:Int)<(l.length:Int))=True:=iS xh
  obtain⟨y,hy⟩:∃ y,l[i]?=some y:=⟨l[i],iO c⟩
  have hr:(Zu l)[i]?=some [vi y]:=by simp[Zu,hy]
  refine vz fun hw64=>?_
  by_cases e:x=y
  ·subst e
   try simp only[go_sem,seval,ZZ,x0,x1,hr,iF,jq,jr,jt,iT]
   rw[QT l x i hy hb]
   exact qT
  ·have z:=iU e
   try simp only[go_sem,seval,ZZ,x0,x1,hr,z,hw64,iF,jq,jr,jt,iT,iV]
   refine .mk (i+1) ⟨by omega,fun j hj=>?_⟩ xh ⟨.refl _,trivial⟩ yS (.refl _)
   exact sL
 ·have x1:((i:Int)<(l.length:Int))=False:=iU xh
  try simp only[go_sem,seval,ZZ,x0,x1,iV]
  rw[Ri l x (fun h=>by
   obtain⟨j,hj,hx⟩:=iN h
   exact hb j xh (by rw[<- hx];exact iO hj))]
  exact qT
theorem Lp(l:List Int)(x:Int)(hl:l.length<=1000000):Pur nC 136 [.list .none 1 (Zu l),vi x] (vb (l.contains x)):=by
 intro σ
 have hi:=M7 l x hl
 rw[<- CZ]
 refine Zb [] [] Tryz.func136 rfl xy ?_;rw[Tryz.ntmps136,Tryz.results136]
 refine uw ?_
 refine hi.use ?_
 exact oG
theorem HY{P:nE}{ρ:Ren}(L:Lays8.n4 P ρ)(i0:TypeInfo)(z:nG)(hi0:P.info? (ρ.t 25)=some i0)(hz0:i0.zero=some z)(hs0:0<i0.size)(hzs:z.cells.size=i0.size)(hb:i0.bytes<=512)(hent:YV P (ρ.f 4)=true)(n:Nat)(hn:n<=137438953472)(σ:Store)(s:Nat) :
 Zh P (ρ.f 4) [.list .full s [],vi n] σ (fun r σ'=>∃ v,r=.ret v/\MW σ i0.size σ' v []/\Has σ σ'):=by
 refine⟨hent,fun w vs hσ hv=>?_⟩
 obtain⟨hl2,hvv⟩:=hv
 obtain⟨v0,v1,rfl⟩:∃ v0 v1,vs=#[v0,v1]:=by
  obtain⟨vl⟩:=vs
  match vl,hl2 with
  | [x,y],_=>exact⟨x,y,rfl⟩
 have hv0:=hvv 0 _ v0 rfl rfl
 have hv1:=hvv 1 _ v1 rfl rfl
 have hv0':=hv0
 cases hv1
 cases hv0 with
 | list _ _ _ cap a b' o rd hcap hlim hsz ha hr h1 h2 =>
 have hcap0:cap=0:=by simpa[Py] using hr
 subst hcap0
 by_cases h0:n=0
 ·subst h0
  have hcon:=Any8.slices_Grow_room L a 0 0 0 w xh xh xh xh
  refine Calls.mono hcon fun en w' he=>?_
  obtain⟨rfl,rfl⟩:=he
  exact⟨.list .full s [],σ,⟨_,rfl,.inl ⟨rfl,s,rfl⟩,.refl _⟩,hv0',hσ,.refl _ _⟩
 ·have hcon:=Any8.slices_Grow_grow L i0 z hi0 hz0 hs0 a 0 0 n [] w xh xh
   (by have:(0+n) * i0.bytes<=137438953472 * 512:=Nat.mul_le_mul xh hb
       omega) xh xf (fun _=>rfl) (fun _ _ j v h=>by simp at h)
  refine Calls.mono hcon fun en w' he=>?_
  obtain⟨rfl,rfl⟩:=he
  obtain⟨G,hG⟩:∃ G,G=grownCap w (0+n) 0 (ρ.t 25):=⟨_,rfl⟩
  have hGn:n<=G:=by rw[hG];have:=grownCap_ge w (0+n) 0 (ρ.t 25);omega
  rw[<- hG]
  obtain⟨xs,hxs⟩:∃ xs:List nG,xs=(Builtin.zeroCells z.cells (0+n-0)).toList++(Builtin.zeroCells z.cells (G-(0+n))).toList:=⟨_,rfl⟩
  have hxl:xs.length=G * i0.size:=by
   rw[hxs,ii,Wt,Wt,hzs,<- lZ];congr 1;omega
  have hcs:(([]:List nG).toArray++Builtin.zeroCells z.cells (0+n-0)++Builtin.zeroCells z.cells (G-(0+n)))=xs.toArray:=by
   rw[hxs];apply Array.toList_inj.1;simp
  rw[hcs]
  have e1:=Ev.drew σ w
  have hz2:=fP (live σ) w xs
  have ho:=hσ.drew
  have e2:=Ev.alloc ho (.cells xs.toArray (ρ.t 25)) (.cells (xs.map dq))
  have ok:=ho.alloc (.cells xs.toArray (ρ.t 25)) (.cells (xs.map dq)) (ej (ρ.t 25) hz2.1 (fun i c x hc hx=>((hz2.2 i c x hc hx).ev e1).ev e2))
  refine⟨.val (.slice (some ⟨w.heap.size,0,none⟩) 0 G),(w.heap.size,.cells (xs.map dq))::σ,⟨_,rfl,.inr ⟨w.heap.size,G,xs.map dq,rfl,by rw[Ze];rfl,by simp[hxl],by omega,hσ.fresh (kO _)⟩,(Has.refl σ).cons _⟩,.val _,ok,e1.trans e2⟩
theorem Eu(n:Nat)(hn:n<=137438953472)(σ:Store)(s:Nat):Zh nC 87 [.list .full s [],vi n] σ (fun r σ'=>∃ v,r=.ret v/\MW σ 2 σ' v []/\Has σ σ'):=by
 obtain⟨i0,hi0,z0,hz0,h1,h2,h3⟩:∃ i0,nC.info? 54=some i0/\∃ z,i0.zero=some z/\i0.size=2/\z.cells.size=2/\i0.bytes<=512:=by
  have hk:((nC.info? 54).bind fun i=>i.zero.map fun z=>(i.size,z.cells.size,decide (i.bytes<=512)))=some (2,2,true):=by kernel_rfl
  cases hi:nC.info? 54 with
  | none=>rw[hi] at hk;cases hk
  | some i =>
    rw[hi] at hk
    simp only[jk] at hk
    cases hz:i.zero with
    | none=>rw[hz] at hk;cases hk
    | some z =>
      rw[hz] at hk
      simp only[jX,jq,lE,kD] at hk
      exact⟨i,rfl,z,hz,hk⟩
 have h:=HY Tryz.growTypes i0 z0 hi0 hz0 xh xh h3 xy n hn σ s
 rw[h1] at h
 exact h
def Ae(ls:List (List Ty)):List (List AV):=ls.map fun l=>[AV.list .none 2 (cI l)]
theorem T6(ls:List (List Ty)):(Ae ls).length=ls.length:=by simp[Ae]
theorem D5{a b:Nat}(h:a+b<=1000000000000):IntKind.i64.wrap ((a:Int)+(b:Int))=((a+b:Nat):Int):=Zk xh xh
theorem MW.appTy{σ S:Store}{v:AV}{l m:List Ty}{rt:Rt}{s2:Nat}{K:AV->Store->Prop}(h:MW σ 2 S v (cI l))(hs2:s2=2\/cI m=[])(hl:l.length+m.length<=137438953472)(hH:Has σ S)
 (kk:∀ v' S',MW σ 2 S' v' (cI (l++m))->Kp (Bk v) (Bk v') S S'->Has σ S'->K v' S'):TJ nC 22 22 v (.list rt s2 (cI m)) S K :=
 MW.app h (ek l) (ek m) (eB l) (eB m) hs2 fa7 fa8 fa9 AY (by rw[fa7];rfl) rfl xj (by rw[cG,cG];exact hl) hH (fun v' S' h1 h2 h3=>kk v' S' (by rw[eW];exact h1) h2 h3)
theorem Ja(ls:List (List Ty))(hls:ls.flatten.length<=137438953472)(hl:ls.length<=1000)(σ:Store):Zh nC 53 [.list .full 1 (Ae ls)] σ (fun r σ'=>∃ v,r=.ret v/\MW σ 2 σ' v (cI ls.flatten)/\Has σ σ'):=by
 refine Zb [33] [] Tryz.func53 rfl xy ?_;rw[Tryz.ntmps53,Tryz.results53]
 try simp only[go_sem,seval,T6]
 have hpre:∀ i,(ls.take i).flatten.length<=ls.flatten.length:=by
  intro i
  have:ls.flatten=(ls.take i).flatten++(ls.drop i).flatten:=by rw[<- nA,jl]
  rw[this,ii];omega
 have hstep:∀ (i:Nat) (l:List Ty),ls[i]?=some l->(ls.take (i+1)).flatten=(ls.take i).flatten++l:=by
  intro i l h
  rw[jh,h,jj,nA];simp
 refine Zp (mu:=[33]) (dr:=[]) [3,5,11,12,13,14,15,16,17,18,19,20,21,22] (fun i:Nat=>[(11,vi i),(3,vi ((ls.take i).flatten.length:Nat))]) (fun _=>σ) (fun i=>i<=ls.length) (fun i=>ls.length-i) 0 xy xh ⟨.refl _,.refl _,trivial⟩ (.refl _) ?_
 intro i hi
 try simp only[go_sem,seval,T6]
 refine⟨fun h1=>⟨by omega,h1,fun c hc=>?_⟩,fun h1=>?_⟩
 ·rw[iF] at hc
  obtain⟨l,hl2,rfl⟩:=Yi hc
  have e1:=hstep i l hl2
  have e2:=hpre (i+1)
  rw[e1,ii] at e2
  refine wq ?_
  rw[D5 xh]
  have h0:((((ls.take i).flatten.length+l.length:Nat):Int)<0)=False:=iU xh
  try simp only[go_sem,seval,h0,iV]
  refine uR ?_
  exact .mk (i+1) xh xh ⟨.refl _,by simp only[e1,ii];exact .refl _,trivial⟩ yS (.refl _)
 ·have hil:ls.take i=ls:=iW xh
  rw[hil]
  refine uw ?_
  refine(Eu ls.flatten.length hls σ 0).mono ?_
  rintro r σ' ⟨v0,rfl,hm,hh⟩
  try simp only[go_sem,seval,T6]
  refine Zp (mu:=[33]) (dr:=[]) [6,8,27,28,29,30,31,32,33,34] (fun x:Nat×AV×Store=>[(27,vi x.1),(6,x.2.1)]) (fun x=>x.2.2) (fun x=>x.1<=ls.length/\MW σ 2 x.2.2 x.2.1 (cI (ls.take x.1).flatten)/\Has σ x.2.2) (fun x=>ls.length-x.1) (0,v0,σ') xy ⟨by simp,hm,hh⟩ ⟨.refl _,.refl _,trivial⟩ (.refl _) ?_
  rintro⟨j,v,S⟩ ⟨j1,j2,j3⟩
  simp only at j1 j2 j3
  try simp only[go_sem,seval,T6]
  refine⟨fun h1=>⟨by omega,h1,fun c hc=>?_⟩,fun h1=>?_⟩
  ·rw[iF] at hc
   obtain⟨l,hl2,rfl⟩:=Yi hc
   have e1:=hstep j l hl2
   have e2:=hpre (j+1)
   rw[e1,ii] at e2
   try simp only[go_sem,seval,j2.one.1,j2.one.2]
   refine j2.appTy (.inl rfl) xh j3 (fun v' S' hv' hk hS'=>?_)
   try simp only[go_sem,seval,hv'.one.1,hv'.one.2]
   rw[show IntKind.i64.wrap ((j:Int)+1)=((j+1:Nat):Int) from Zk xh xh]
   exact .mk (j+1,v',S') ⟨by simp only;omega,by simp only[e1];exact hv',hS'⟩ xS ⟨.refl _,.refl _,trivial⟩ yS (.refl _)
  ·have hjl:ls.take j=ls:=iW xh
   rw[hjl] at j2
   try simp only[go_sem,seval,j2.one.1,j2.one.2]
   exact .mk (.refl _) (.refl _) ⟨v,rfl,j2,j3⟩
end Go.Vx
