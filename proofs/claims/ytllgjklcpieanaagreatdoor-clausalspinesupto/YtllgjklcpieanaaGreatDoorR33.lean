/- A part of the proof of clausalSpinesProved. -/
import Derived.Test.YtllgjklcpieanaaGreatDoorR30
set_option linter.unusedVariables false
set_option linter.unusedSimpArgs false
set_option maxRecDepth 100000
namespace Go.Vx
open Go.Proofs
def Xd(l:List (List Int)):List (List AV):=l.map fun p=>[AV.list .none 1 (Zu p)]
theorem Zt(l:List (List Int)):(Xd l).length=l.length:=by simp[Xd]
theorem WA{l:List (List Int)}{i:Nat}{c:List AV}(h:(Xd l)[i]?=some c):∃ p,l[i]?=some p/\c=[AV.list .none 1 (Zu p)]:=Yi h
theorem HR(p:List Int)(n:Nat):(Zu p).drop n=Zu (p.drop n):=by simp[Zu,List.map_drop]
theorem U3(p:List (List Int))(n:Nat):(Xd p).drop n=Xd (p.drop n):=by simp[Xd,List.map_drop]
theorem U1(p:List (List Int))(n:Nat):(Xd p).take n=Xd (p.take n):=by simp[Xd,jx]
theorem Z9(l:List Int):(Zu l).length=l.length:=by simp
theorem Y7(l:List (List Int))(hne:∀ p∈l,p≠[]):Pur nC 111 [.list .none 1 (Xd l)] (.list .none 1 (Xd (l.map (·.drop 1)))):=by
 intro σ
 refine Zh.nodup xy (fun hnd=>?_)
 refine Zh.ok xy (fun hok=>?_)
 have hl:=(hok _ ir).len
 rw[Zt] at hl
 clear hok
 refine Zb [] [] Tryz.func111 rfl xy ?_;rw[Tryz.ntmps111,Tryz.results111]
 refine vj ?_
 refine Zp (mu:=[]) (dr:=[]) [3,5,8,9,10,11,12,13,14,15,16,17] (fun x:Nat×AV×Store=>[(8,vi x.1),(3,x.2.1)]) (fun x=>x.2.2) (fun x=>x.1<=l.length/\LV σ x.2.2 x.2.1 1 (Xd ((l.take x.1).map (·.drop 1)))/\Has σ x.2.2) (fun x=>l.length-x.1) (0,.list .full 0 [],σ) xy ⟨by omega,LV.nil _ _ _,.refl _⟩ ⟨.refl _,.refl _,trivial⟩ (.refl _) ?_
 rintro⟨i,v,S⟩ ⟨i1,i2,i3⟩
 simp only at i1 i2 i3
 refine vj ?_
 refine⟨fun h1=>⟨by omega,h1,fun c hc=>?_⟩,fun h1=>?_⟩
 ·rw[iF] at hc
  obtain⟨p,hp,rfl⟩:=WA hc
  have hpn:=hne p (iG hp)
  have hpl:0<p.length:=List.length_pos_iff.2 hpn
  try simp only[go_sem,Int.reduceEq,Int.reduceLT,Int.reduceLE,↓reduceIte,Nat.reduceEqDiff,Nat.reduceAdd,Nat.reduceSub,Nat.reduceLT,Nat.reduceLeDiff,Nat.reduceMul,reduceCtorEq,i2.one,i2.cells,WF]
  have hlp:(Zu p).length=p.length:=Z9 p
  have e1:List.take (((Zu p).length:Int).toNat-Int.toNat 1) (List.drop (Int.toNat 1) (Zu p))=Zu (p.drop 1):=by
   rw[iF,show Int.toNat 1=1 from rfl,HR,iW (by rw[Z9,iP,hlp];omega)]
  rw[e1]
  refine⟨by rw[hlp];omega,by omega,rfl,i2.append rfl xj (by simp[Xd];omega) rfl xf i3 (fun v' S' hv' hkp hS'=>?_)⟩
  try simp only[go_sem,Int.reduceEq,Int.reduceLT,Int.reduceLE,↓reduceIte,Nat.reduceEqDiff,Nat.reduceAdd,Nat.reduceSub,Nat.reduceLT,Nat.reduceLeDiff,Nat.reduceMul,reduceCtorEq,hv'.one,hv'.cells]
  refine uR ?_
  refine .mk (i+1,v',S') ⟨by simp only;omega,?_,hS'⟩ xS ⟨.refl _,.refl _,trivial⟩ yS (.refl _)
  simp only
  rw[jh,hp,jj,jv]
  have:Xd ((l.take i).map (·.drop 1)++[p].map (·.drop 1))=Xd ((l.take i).map (·.drop 1))++[[AV.list .none 1 (Zu (p.drop 1))]]:=by simp[Xd]
  rw[this]
  exact hv'
 ·try simp only[go_sem,Int.reduceEq,Int.reduceLT,Int.reduceLE,↓reduceIte,Nat.reduceEqDiff,Nat.reduceAdd,Nat.reduceSub,Nat.reduceLT,Nat.reduceLeDiff,Nat.reduceMul,reduceCtorEq,i2.one,i2.cells]
  have hil:l.take i=l:=iW xh
  rw[hil] at i2
  exact .mk i2.wk (i3.sub hnd) ⟨rfl,rfl⟩
theorem AU(p:List Int)(hp:p≠[]):Pur nC 113 [.list .none 1 (Zu p)] (vb (!decide (p.headD 0=2))):=by
 intro σ
 obtain⟨x,r,rfl⟩:=iQ hp
 refine Zb [] [] Tryz.func113 rfl xy ?_;rw[Tryz.ntmps113,Tryz.results113]
 try simp only[go_sem,Int.reduceEq,Int.reduceLT,Int.reduceLE,↓reduceIte,Nat.reduceEqDiff,Nat.reduceAdd,Nat.reduceSub,Nat.reduceLT,Nat.reduceLeDiff,Nat.reduceMul,reduceCtorEq,iR,ij]
 refine⟨by omega,fun c hc=>?_⟩
 obtain rfl:[vi x]=c:=by simpa using hc
 try simp only[go_sem,Int.reduceEq,Int.reduceLT,Int.reduceLE,↓reduceIte,Nat.reduceEqDiff,Nat.reduceAdd,Nat.reduceSub,Nat.reduceLT,Nat.reduceLeDiff,Nat.reduceMul,reduceCtorEq,List.headD_cons]
 exact Zl
theorem Tc(l:List (List Int))(hne:∀ p∈l,p≠[]):Pur nC 112 [.list .none 1 (Xd l),.val (.func (.func 113) #[] #[])] (vb (l.any fun p=>!decide (p.headD 0=2))):=by
 intro σ
 have h:=Sz (.func (.func 113) #[] #[]) .none 1 (l.map fun p=>AV.list .none 1 (Zu p)) (fun _=>σ) (fun i=>match l[i]? with|some p=>!decide (p.headD 0=2)|none=>false) (.inl rfl)
  (fun i e he _=>by
   obtain⟨p,hp,rfl⟩:=Yi he
   rw[Z4]
   simp only[hp]
   exact AU p (hne p (iG hp)) σ)
 exact pc
def PO:Nat->List (List Int)->Bool
 | 0,_=>false
 | k+1,l =>
   if l=[[]] then true
   else if l.any (·.isEmpty) then false
   else if(l.headD []).headD 0=3\/(l.headD []).headD 0=4\/(l.headD []).headD 0=5 then decide ((l.takeWhile fun p=>decide (p.headD 0=(l.headD []).headD 0)).length=l.length)&&PO k (l.map (·.drop 1))
   else if(l.headD []).headD 0=1 then
    if(l.drop (l.takeWhile fun p=>decide (p.headD 0=(l.headD []).headD 0)).length).isEmpty || (l.drop (l.takeWhile fun p=>decide (p.headD 0=(l.headD []).headD 0)).length).any (fun p=>!decide (p.headD 0=2)) then false
    else PO k ((l.take (l.takeWhile fun p=>decide (p.headD 0=(l.headD []).headD 0)).length).map (·.drop 1))&&PO k ((l.drop (l.takeWhile fun p=>decide (p.headD 0=(l.headD []).headD 0)).length).map (·.drop 1))
   else false
theorem X2{α:Type}{P:α->Bool}:∀ {l:List α} {i:Nat},i<=l.length->(∀ (j:Nat) (x:α),j<i->l[j]?=some x->P x=true)->(∀ x,l[i]?=some x->P x=false)->(l.takeWhile P).length=i
 | [],i,hi,_,_=>by simp at hi;subst hi;rfl
 | a::r,0,_,_,h3=>by have:=h3 a rfl;simp[List.takeWhile_cons,this]
 | a::r,i+1,hi,h2,h3=>by
   have ha:=h2 0 a xh rfl
   rw[List.takeWhile_cons,gZ ha,ij]
   rw[X2 (l:=r) (i:=i) xM (fun j x hj hx=>h2 (j+1) x xh xO) (fun x hx=>h3 x xO)]
theorem X1{α:Type}{P:α->Bool}{l:List α}{i:Nat}{a:α}(h:(l.takeWhile P).length=i)(ha:l[0]?=some a)(hi:i=0:=by assumption):P a=false:=by
 subst hi
 cases l with
 | nil=>cases ha
 | cons b r =>
   simp at ha;subst ha
   cases hp:P b with
   | false=>rfl
   | true=>rw[List.takeWhile_cons,gZ hp] at h;simp at h
theorem bQ:∀ (k:Nat) (l:List (List Int)),l≠[]->(∀ p∈l,p.length<k)->Pur nC 64 [.list .none 1 (Xd l)] (vb (PO k l)):=by
 intro k
 induction k with
 | zero =>
   intro l hl h
   obtain⟨x,r,rfl⟩:=iQ hl
   exact absurd (h x ir) xh
 | succ k ih =>
   intro l hl h σ
   refine Zh.ok xy (fun hok=>?_)
   have hlen:=(hok _ ir).len
   rw[Zt] at hlen
   clear hok
   have hl0:0<l.length:=List.length_pos_iff.2 hl
   obtain⟨p0,hp0⟩:∃ p0,l[0]?=some p0:=⟨_,iO hl0⟩
   have hh:l.headD []=p0:=by cases l with|nil=>cases hp0|cons a r=>simpa using hp0
   refine uI fun hw=>?_
   rw[PO,hh]
   refine Zb [] [] Tryz.func64 rfl xy ?_;rw[Tryz.ntmps64,Tryz.results64]
   refine vj ?_
   refine⟨fun g1=>⟨by omega,fun c hc=>?_⟩,fun g1=>?_⟩
   ·obtain⟨p,hp,rfl⟩:=WA hc
    obtain rfl:p0=p:=by rw[show Int.toNat 0=0 from rfl,hp0] at hp;injection hp
    have hl1:l=[p0]:=by
     match l,hp0,g1 with
     | [a],h,_=>simpa using h
     | a::b::r,_,h=>simp at h;omega
    try simp only[go_sem,Int.reduceEq,Int.reduceLT,Int.reduceLE,↓reduceIte,Nat.reduceEqDiff,Nat.reduceAdd,Nat.reduceSub,Nat.reduceLT,Nat.reduceLeDiff,Nat.reduceMul,reduceCtorEq,Z9]
    by_cases hz:p0.length=0
    ·have fz:((p0.length:Int)=0)=True:=iS xh
     try simp only[go_sem,Int.reduceEq,Int.reduceLT,Int.reduceLE,↓reduceIte,Nat.reduceEqDiff,Nat.reduceAdd,Nat.reduceSub,Nat.reduceLT,Nat.reduceLeDiff,Nat.reduceMul,reduceCtorEq,fz,iT]
     have:p0=[]:=List.length_eq_zero_iff.1 hz
     rw[gZ (by rw[hl1,this])]
     exact Zl
    ·have fz:((p0.length:Int)=0)=False:=iU xh
     have hnl:¬ l=[[]]:=fun e=>by rw[hl1] at e;simp at e;rw[e] at hz;simp at hz
     try simp only[go_sem,Int.reduceEq,Int.reduceLT,Int.reduceLE,↓reduceIte,Nat.reduceEqDiff,Nat.reduceAdd,Nat.reduceSub,Nat.reduceLT,Nat.reduceLeDiff,Nat.reduceMul,reduceCtorEq,fz,iV]
     exact nO
   ·have hnl:¬ l=[[]]:=fun e=>by rw[e] at g1;simp at g1
    exact nO
end Go.Vx
