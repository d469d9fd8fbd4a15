/- A part of the proof of clausalSpinesProved. -/
import Derived.Test.YtllgjklcpieanaaGreatDoorR07
import Derived.Laws.Tables
set_option linter.unusedVariables false
set_option linter.unusedSimpArgs false
namespace Go.Vx
open Go.RowKit
def Fr.args(aS:List AV):Fr:=fun i=>aS.getD i (.val undef)
def Ts(P:nE):List ResultVar->Fr->Store->(List AV->Prop)->Prop
 | [],_,_,K=>K []
 | .tmp t::r,fr,σ,K=>Ts P r fr σ fun l=>K (fr t::l)
 | .cell a T::r,fr,σ,K=>We P T (fr a) σ fun v=>Ts P r fr σ fun l=>K (v::l)
def dN:List AV->AV
 | [v]=>v
 | l=>.tup l
def Tw(R:ZE->Store->Prop)(v:AV)(σ:Store):Prop:=∃ v' σ',Xq v σ v' σ'/\R (.ret v') σ'
def JN(R:ZE->Store->Prop)(pv:nG)(σ:Store):Prop:=∃ σ',Sub σ' σ/\R (.pan pv) σ'
theorem Tw.mk{R:ZE->Store->Prop}{v v':AV}{σ σ':Store}(h1:Wk v v')(h2:Sub σ' σ)(h3:R (.ret v') σ'):Tw R v σ:=⟨v',σ',.of h1 h2,h3⟩
theorem Tw.mkS{R:ZE->Store->Prop}{v v':AV}{σ σ':Store}(h1:Xq v σ v' σ')(h3:R (.ret v') σ'):Tw R v σ:=⟨v',σ',h1,h3⟩
theorem JN.mk{R:ZE->Store->Prop}{pv:nG}{σ σ':Store}(h2:Sub σ' σ)(h3:R (.pan pv) σ'):JN R pv σ:=⟨σ',h2,h3⟩
def M2(P:nE)(rs:List ResultVar)(R:ZE->Store->Prop):Exit->Fr->Store->Prop
 | .normal,fr,σ=>Ts P rs fr σ fun l=>Tw R (dN l) σ
 | .ret,fr,σ=>Ts P rs fr σ fun l=>Tw R (dN l) σ
 | .panic c,fr,σ=>∃ pv,c=[{ v:=pv,recovered:=false }]/\JN R pv σ
 | _,_,_=>False
def Kk(n:Nat):ResultVar->Bool
 | .tmp t=>t<n
 | .cell a _=>a<n
theorem Ul{P:nE}{n:Nat}{σ:Store}{w:nH}{fr:Fr}{tmps:nN nG}(hf:XM n (live σ) w fr tmps)(hσ:Zq σ w):∀ (rs:List ResultVar) (K:List AV->Prop),rs.all (Kk n)=true->Ts P rs fr σ K ->
 ∃ (vs:List nG) (aS:List AV),(rs.mapM (fun|.tmp t=>pure (tmps.getD t undef)|.cell a t=>do loadVar t (<- asAddr (tmps.getD a undef)):ResultVar->Sem nG)).run P w=.ok vs w/\Vs (live σ) w aS vs/\K aS:=by
 intro rs
 induction rs with
 | nil=>intro K _ h;exact⟨[],[],by simp,⟨rfl,by simp⟩,h⟩
 | cons r rr ih =>
   intro K hB h
   simp only[kY,kJ] at hB
   have step:∀ (a:AV) (v:nG) (vs:List nG) (aS:List AV),V (live σ) w a v->Vs (live σ) w aS vs->Vs (live σ) w (a::aS) (v::vs):=by
    intro a v vs aS h1 h2
    refine⟨by simp[h2.1],fun i b u hb hu=>?_⟩
    cases i with
    | zero=>simp at hb hu;subst hb;subst hu;exact h1
    | succ i=>exact h2.2 i b u (by simpa using hb) xP
   cases r with
   | tmp t =>
     obtain⟨vs,aS,h1,h2,h3⟩:=ih _ hB.2 h
     exact⟨tmps.getD t undef::vs,fr t::aS,by simp only[List.mapM_cons,jZ,kf,kC,h1],step _ _ _ _ (hf.slot t (by simpa[Kk] using hB.1)) h2,h3⟩
   | cell a T =>
     simp only[Ts] at h
     have hv:=hf.slot a (by simpa[Kk] using hB.1)
     obtain⟨x,av,q1,q2,q3⟩:=RT (P:=P) h hσ hv
     obtain⟨vs,aS,h1,h2,h3⟩:=ih _ hB.2 q3
     refine⟨x::vs,av::aS,?_,step _ _ _ _ q2 h2,h3⟩
     have hp:∃ ad,tmps.getD a undef=.pointer (some ad):=by
      unfold We at h
      split at h
      ·rename_i hh;rw[hh] at hv;obtain⟨b,o,e⟩:=hv.ro_form;exact⟨_,e⟩
      ·rename_i hh;rw[hh] at hv;generalize hq:tmps.getD a undef=u at hv;cases hv;exact⟨_,rfl⟩
      ·exact h.elim
     obtain⟨ad,hp⟩:=hp
     rw[hp] at q1
     simp only[Instr.loadAt,Instr.sureAddr,jZ,kf,kC] at q1
     have ha:(asAddr (tmps.getD a undef)).run P w=.ok ad w:=by rw[hp];rfl
     simp only[List.mapM_cons,jZ,ha,kf,kC,q1,h1]
theorem Zb{P:nE}{f:nL}{fn:Func}{c:Code}{args:List AV}{σ:Store}{R:ZE->Store->Prop}(mu:List Nat)(dr:List (Nat×Nat×Nat))(hf:P.funcs[f]?=some fn)(hb:fn.body=some c)
 (hchk:(P.follows .mixedOrders&&Vu fn.ntmps dr c&&fn.results.toList.all (Kk fn.ntmps)&&decide (args.length<=fn.ntmps)&&YV P f)=true) (h:avc P fn.ntmps [] mu dr c (M2 P fn.results.toList R) (Fr.args args) σ):Zh P f args σ R:=by
 simp only[kJ,kD] at hchk
 obtain⟨⟨⟨⟨h0,h1⟩,h2⟩,h3⟩,h4⟩:=hchk
 refine⟨h4,fun w vs hσ hv=>?_⟩
 have hsz:vs.size=args.length:=by have:=hv.1;simp at this;omega
 refine calls_of_wp hf hb ?_
 refine(mF (n:=0)).1 (Zn h0 c h1 _ _ _ h _ w ⟨rfl,⟨by simp;omega,fun i hi=>?_⟩,hσ⟩ _ (fun e fr' σ' a' w' q c' v=>?_) none 0)
 ·exact oA
 ·have fin:Ts P fn.results.toList fr' σ' (fun l=>Tw R (dN l) σ')->a'.defers=[]/\∃ v,(results fn a'.tmps).run P w'=.ok v w'/\Wb σ w R (.returned v) w':=by
   intro q
   refine⟨c'.defers,?_⟩
   obtain⟨us,aS,r1,r2,v',σ2,k1,k3⟩:=Ul c'.fr c'.ok _ _ h2 q
   have hrun:(results fn a'.tmps).run P w'=.ok (if h:us.toArray.size=1 then us.toArray[0] else .tuple us.toArray) w':=by
    exact pU
   have hval:V (live σ') w' (dN aS) (if h:us.toArray.size=1 then us.toArray[0] else .tuple us.toArray):=by
    match aS,us,r2 with
    | [],[],_=>exact V.tup [] [] rfl xf
    | [a],[u],r2=>exact r2.2 0 a u rfl rfl
    | a::b::r,x::y::t,r2 =>
      exact pO
   obtain⟨j1,j2,j3⟩:=k1 w' _ c'.ok hval
   exact⟨_,hrun,v',σ2,k3,j1,j2,v.trans j3⟩
  cases e with
  | normal=>exact fin q
  | ret=>exact fin q
  | panic ch =>
    obtain⟨pv,rfl,σ2,k1,k2⟩:=q
    exact⟨c'.defers,pv,σ2,rfl,k2,c'.ok.sub k1,v.trans (k1.ev w')⟩
  | exit i=>exact q.elim
  | goto l=>exact q.elim
  | outgrown=>exact q.elim
end Go.Vx
