/- Part Q10 of the proof of treeLooksProved: the walk of the program on abstract values, and the plain law. -/
import Derived.Test.YtmedmnondjmleaaGreatQ09
import Derived.Laws.Tables
set_option linter.unusedVariables false
set_option linter.unusedSimpArgs false
namespace Go.Vx
open Go.RowKit
def Fr.args (as:List AV):Fr:=fun i=>as.getD i (.val undef)
def U5 (P:Program):List ResultVar→Fr→Store→(List AV→Prop)→Prop
 | [],_,_,K=>K []
 | .tmp t::r,fr,σ,K=>U5 P r fr σ fun l=>K (fr t::l)
 | .cell a T::r,fr,σ,K=>Wg P T (fr a) σ fun v=>U5 P r fr σ fun l=>K (v::l)
def db:List AV→AV
 | [v]=>v
 | l=>.tup l
def Tw (R:ZO→Store→Prop)(v:AV)(σ:Store):Prop:=∃ v' σ',Y0 v σ v' σ'∧R (.ret v') σ'
def HX (R:ZO→Store→Prop)(pv:Value)(σ:Store):Prop:=∃ σ',Sub σ' σ∧R (.pan pv) σ'
theorem Tw.mk {R:ZO→Store→Prop}{v v':AV}{σ σ':Store}(h1:Wk v v')(h2:Sub σ' σ)(h3:R (.ret v') σ'):Tw R v σ:=⟨v',σ',.of h1 h2,h3⟩
theorem Tw.mkS {R:ZO→Store→Prop}{v v':AV}{σ σ':Store}(h1:Y0 v σ v' σ')(h3:R (.ret v') σ'):Tw R v σ:=⟨v',σ',h1,h3⟩
theorem HX.mk {R:ZO→Store→Prop}{pv:Value}{σ σ':Store}(h2:Sub σ' σ)(h3:R (.pan pv) σ'):HX R pv σ:=⟨σ',h2,h3⟩
def Mx (P:Program)(rs:List ResultVar)(R:ZO→Store→Prop):Exit→Fr→Store→Prop
 | .normal,fr,σ=>U5 P rs fr σ fun l=>Tw R (db l) σ
 | .ret,fr,σ=>U5 P rs fr σ fun l=>Tw R (db l) σ
 | .panic c,fr,σ=>∃ pv,c=[{ v:=pv,recovered:=false }]∧HX R pv σ
 | _,_,_=>False
def Ik (n:Nat):ResultVar→Bool
 | .tmp t=>t<n
 | .cell a _=>a<n
theorem Tv {P:Program}{n:Nat}{σ:Store}{w:World}{fr:Fr}{tmps:Array Value}(hf:Wc n (live σ) w fr tmps)(hσ:Zo σ w):∀ (rs:List ResultVar) (K:List AV→Prop),rs.all (Ik n)=true→U5 P rs fr σ K →
 ∃ (vs:List Value) (as:List AV),(rs.mapM (fun | .tmp t=>pure (tmps.getD t undef) | .cell a t=>do loadVar t (← asAddr (tmps.getD a undef)):ResultVar→Sem Value)).run P w=.ok vs w∧Vs (live σ) w as vs∧K as:=by
 intro rs
 induction rs with
 | nil=>intro K _ h;exact ⟨[],[],by simp,⟨rfl,by simp⟩,h⟩
 | cons r rr ih =>
   intro K hB h
   simp only [List.all_cons,Bool.and_eq_true] at hB
   have step:∀ (a:AV) (v:Value) (vs:List Value) (as:List AV),V (live σ) w a v→Vs (live σ) w as vs→Vs (live σ) w (a::as) (v::vs):=by
    intro a v vs as h1 h2
    refine ⟨by simp [h2.1],fun i b u hb hu=>?_⟩
    cases i with
    | zero=>simp at hb hu;subst hb;subst hu;exact h1
    | succ i=>exact h2.2 i b u (by simpa using hb) (by simpa using hu)
   cases r with
   | tmp t =>
     obtain ⟨vs,as,h1,h2,h3⟩:=ih _ hB.2 h
     exact ⟨tmps.getD t undef::vs,fr t::as,by simp only [List.mapM_cons,Sem.run_bind,Sem.run_pure,Result.andThen_ok,h1],step _ _ _ _ (hf.slot t (by simpa [Ik] using hB.1)) h2,h3⟩
   | cell a T =>
     simp only [U5] at h
     have hv:=hf.slot a (by simpa [Ik] using hB.1)
     obtain ⟨x,av,q1,q2,q3⟩:=Rg (P:=P) h hσ hv
     obtain ⟨vs,as,h1,h2,h3⟩:=ih _ hB.2 q3
     refine ⟨x::vs,av::as,?_,step _ _ _ _ q2 h2,h3⟩
     have hp:∃ ad,tmps.getD a undef=.pointer (some ad):=by
      unfold Wg at h
      split at h
      ·rename_i hh;rw [hh] at hv;obtain ⟨b,o,e⟩:=hv.ro_form;exact ⟨_,e⟩
      ·rename_i hh;rw [hh] at hv;generalize hq:tmps.getD a undef=u at hv;cases hv;exact ⟨_,rfl⟩
      ·exact eY
     obtain ⟨ad,hp⟩:=hp
     rw [hp] at q1
     simp only [Instr.loadAt,Instr.sureAddr,Sem.run_bind,Sem.run_pure,Result.andThen_ok] at q1
     have ha:(asAddr (tmps.getD a undef)).run P w=.ok ad w:=by rw [hp];rfl
     simp only [List.mapM_cons,Sem.run_bind,ha,Sem.run_pure,Result.andThen_ok,q1,h1]
theorem Zc {P:Program}{f:FuncId}{fn:Func}{c:Code}{args:List AV}{σ:Store}{R:ZO→Store→Prop}(mu:List Nat)(dr:List (Nat×Nat×Nat))(hf:P.funcs[f]?=some fn)(hb:fn.body=some c)
 (hchk:(P.follows .mixedOrders&&Vi fn.ntmps dr c&&fn.results.toList.all (Ik fn.ntmps)&&decide (args.length≤fn.ntmps)&&Xn P f)=true) (h:avc P fn.ntmps [] mu dr c (Mx P fn.results.toList R) (Fr.args args) σ):Zj P f args σ R:=by
 simp only [Bool.and_eq_true,decide_eq_true_eq] at hchk
 obtain ⟨⟨⟨⟨h0,h1⟩,h2⟩,h3⟩,h4⟩:=hchk
 refine ⟨h4,fun w vs hσ hv=>?_⟩
 have hsz:vs.size=args.length:=by have:=hv.1;simp at this;omega
 refine calls_of_wp hf hb ?_
 refine ZD h0 c h1 _ _ _ h _ w ⟨rfl,⟨by simp;omega,fun i hi=>?_⟩,hσ⟩ _ (fun e fr' σ' a' w' q c' v=>?_)
 ·unfold Fr.args
  by_cases hlt:i<args.length
  ·have e1:args.getD i (.val undef)=args[i]:=by simp [hlt]
   have e2:(vs++Array.replicate (fn.ntmps-vs.size) undef).getD i undef=vs.toList[i]'(by simp;omega):=by
    simp [Array.getD_eq_getD_getElem?,Array.getElem?_append,show i<vs.size from by omega]
   rw [e1,e2]
   exact hv.2 i _ _ (List.getElem?_eq_getElem hlt) (List.getElem?_eq_getElem _)
  ·have e1:args.getD i (.val undef)=.val undef:=by simp [List.getD_eq_getElem?_getD,List.getElem?_eq_none (show args.length≤i by omega)]
   have e2:(vs++Array.replicate (fn.ntmps-vs.size) undef).getD i undef=undef:=by
    simp [Array.getD_eq_getD_getElem?,Array.getElem?_append,show ¬ i<vs.size from by omega,Array.getElem?_replicate]
    split<;>rfl
   rw [e1,e2]
   exact .val _
 ·have fin:U5 P fn.results.toList fr' σ' (fun l=>Tw R (db l) σ')→a'.defers=[]∧∃ v,(results fn a'.tmps).run P w'=.ok v w'∧VJ σ w R (.returned v) w':=by
   intro q
   refine ⟨c'.defers,?_⟩
   obtain ⟨us,as,r1,r2,v',σ2,k1,k3⟩:=Tv c'.fr c'.ok _ _ h2 q
   have hrun:(results fn a'.tmps).run P w'=.ok (if h:us.toArray.size=1 then us.toArray[0] else .tuple us.toArray) w':=by
    unfold results
    rw [Array.mapM_eq_mapM_toList]
    simp only [Sem.run_bind,Sem.run_map,Sem.run_pure]
    erw [r1]
    rfl
   have hval:V (live σ') w' (db as) (if h:us.toArray.size=1 then us.toArray[0] else .tuple us.toArray):=by
    match as,us,r2 with
    | [],[],_=>exact V.tup [] [] rfl (by simp)
    | [a],[u],r2=>exact r2.2 0 a u rfl rfl
    | a::b::r,x::y::t,r2 =>
      simp only [List.size_toArray,List.length_cons,show ¬ (t.length+1+1=1) from by omega,dite_false,db]
      exact V.tup _ _ r2.1 r2.2
   obtain ⟨j1,j2,j3⟩:=k1 w' _ c'.ok hval
   exact iQ
  cases e with
  | normal=>exact fin q
  | ret=>exact fin q
  | panic ch =>
    obtain ⟨pv,rfl,σ2,k1,k2⟩:=q
    exact ⟨c'.defers,pv,σ2,rfl,k2,c'.ok.sub k1,v.trans (k1.ev w')⟩
  | exit i=>exact q.elim
  | goto l=>exact q.elim
  | outgrown=>exact q.elim
end Go.Vx
