/- A part of the proof of clausalSpinesProved. -/
import Derived.Test.YtllgjklcpieanaaGreatDoorRows
import Derived.WalkKit
import Derived.ProofKit
import Derived.JoinedCond
import Derived.Test.YtllgjklcpieanaaGreatDoorR10
import Derived.RangeFuncIn
import Derived.RangeFuncLeaves
import Derived.RangeFuncRecord
set_option linter.unusedVariables false
set_option linter.unusedSimpArgs false
section
namespace Go.Proofs.YtllgjklcpieanaaGreatDoor.clausalSpines
theorem ac:joinedFacts Tryz.checked.prog 3 Tryz.f3 (Rows.OpenSpec.upto Rows.clausalSpinesSpec).bare Rows.clausalSpinesUptoRow=true:=by kernel_rfl
end Go.Proofs.YtllgjklcpieanaaGreatDoor.clausalSpines
end
section
namespace Go.Vx
open Go.RowKit
theorem W5{σ:Store}{w:nH}(hσ:Zq σ w){b:Nat}{o:Obj}(h:σ.get b=some (.raw o))(o':Obj) :
 Zq (σ.set b (.raw o')) (w.putObj b o')/\Ev σ w (σ.set b (.raw o')) (w.putObj b o')/\live (σ.set b (.raw o'))=live σ:=by
 have hl:=QD hσ.nodup h (y:=.raw o') rfl
 have hb:b<w.heap.size:=(hσ.obj b _ (ZU h)).lt
 have ev:Ev σ w (σ.set b (.raw o')) (w.putObj b o'):=Ev.turn (fun _ _ _ hx=>by rw[hl] at hx;exact hx) rfl rfl rfl xf (fun b' hne=>World.putObj_heap_other hne)
  (fun x hx=>absurd ⟨_,ZU h,trivial⟩ hx) ⟨0,_,ZU h,trivial⟩ (kO _)
 exact⟨hσ.set h ev (fun b' hne=>World.putObj_heap_other hne) (World.putObj_heap_same hb),ev,hl⟩
def eV(tmps:nN nG):Fr:=fun i=>.val (tmps.getD i undef)
theorem fX(L:Nat->Nat->Prop)(w:nH)(tmps:nN nG):XM tmps.size L w (eV tmps) tmps:=⟨rfl,fun i _=>V.val _⟩
def QK(l:Nat)(r:Loop)(K:ZE->Store->Prop):Exit->Fr->Store->Prop
 | .normal,_,σ=>σ.get l=some (.raw (.loop { r with state:=.busy }))/\K (.ret (.val (.bool true))) (σ.set l (.raw (.loop r)))
 | .ret,_,σ=>σ.get l=some (.raw (.loop { r with state:=.busy }))/\K (.ret (.val (.bool false))) (σ.set l (.raw (.loop { r with state:=.done,pending:=some .ret })))
 | .exit i,_,σ=>σ.get l=some (.raw (.loop { r with state:=.busy }))/\K (.ret (.val (.bool false))) (σ.set l (.raw (.loop { r with state:=.done,pending:=some (.exit i) })))
 | _,_,_=>False
theorem PI(l:Nat)(r:Loop)(K:ZE->Store->Prop)(fr:Fr)(σ:Store):QK l r K .normal fr σ=(σ.get l=some (.raw (.loop { r with state:=.busy }))/\K (.ret (.val (.bool true))) (σ.set l (.raw (.loop r)))):=rfl
theorem KL(l:Nat)(r:Loop)(K:ZE->Store->Prop)(fr:Fr)(σ:Store):QK l r K .ret fr σ=(σ.get l=some (.raw (.loop { r with state:=.busy }))/\K (.ret (.val (.bool false))) (σ.set l (.raw (.loop { r with state:=.done,pending:=some .ret })))):=rfl
theorem MV(l:Nat)(r:Loop)(K:ZE->Store->Prop)(i:Nat)(fr:Fr)(σ:Store):QK l r K (.exit i) fr σ=(σ.get l=some (.raw (.loop { r with state:=.busy }))/\K (.ret (.val (.bool false))) (σ.set l (.raw (.loop { r with state:=.done,pending:=some (.exit i) })))):=rfl
attribute [go_sem ↓] PI KL MV
def Ir(P:nE)(l:Nat)(r:Loop)(K:ZE->Store->Prop):Exit->Fr->Store->Prop
 | .normal,fr,σ=>σ.get l=some (.raw (.loop r))/\AWp P r.tmps.size [] r.body (QK l r K) fr (σ.set l (.raw (.loop { r with state:=.busy })))
 | _,_,_=>False
theorem QL(P:nE)(l:Nat)(r:Loop)(K:ZE->Store->Prop)(fr:Fr)(σ:Store):Ir P l r K .normal fr σ=(σ.get l=some (.raw (.loop r))/\AWp P r.tmps.size [] r.body (QK l r K) fr (σ.set l (.raw (.loop { r with state:=.busy })))):=rfl
attribute [go_sem ↓] QL
theorem Tf{P:nE}{l:Nat}{tv:AV}{σ:Store}{K:ZE->Store->Prop}{r:Loop}{p:Nat}(hg:σ.get l=some (.raw (.loop r)))(hp:r.params=#[p])(hpn:p<r.tmps.size)(hs:r.state=.ready)(hpe:r.pending=none)
 (h:AWp P r.tmps.size [] r.assign (Ir P l r K) ((eV r.tmps).put p tv) σ):WN P l tv σ K:=by
 intro w v hσ hv
 have hw:w.heap[l]?=some (.loop r):=hσ.obj l _ (ZU hg)
 refine⟨r,hw,by rw[hp];rfl,fun ro m=>?_⟩
 have htm:((r.params.zip #[v]).foldl (fun tmps (t,a)=>tmps.setIfInBounds t a) r.tmps)=r.tmps.setIfInBounds p v:=by
  have hz:(#[p]:nN Nat).zip #[v]=#[(p,v)]:=by apply Array.ext';simp
  rw[hp,hz];simp
 rw[htm]
 have hfr0:XM r.tmps.size (live σ) w ((eV r.tmps).put p tv) (r.tmps.setIfInBounds p v) :=
  (fX (live σ) w r.tmps).put (a:={ tmps:=r.tmps,defers:=[] }) (d:=some p) (fun k hk=>by injection hk with hk;rw[<- hk];exact hpn) hv
 have hr':({ ({ r with state:=.busy }:Loop) with state:=.ready,pending:=none }:Loop)=r:=by
  cases r;simp at hs hpe;subst hs;subst hpe;rfl
 refine roundIn_of_wpIn (F:=fen ro) (n:=m) trivial ?_
 refine h { tmps:=r.tmps.setIfInBounds p v,defers:=[] } w ⟨rfl,hfr0,hσ⟩ _ (fun e fr1 σ1 a1 w1 q c1 v1=>?_) (some l) m
 cases e with
 | normal =>
   obtain⟨g1,hb⟩:=q
   have hw1:w1.heap[l]?=some (.loop r):=c1.ok.obj l _ (ZU g1)
   obtain⟨t1,t2,t3⟩:=W5 c1.ok g1 (.loop { r with state:=.busy })
   refine⟨_,run_beginRound hw1 hs,?_⟩
   refine hb a1 _ ⟨c1.defers,c1.fr.ev t2,t1⟩ _ (fun e fr2 σ2 a2 w2 q2 c2 v2=>?_) (some l) m
   have ev2:=(v1.trans t2).trans v2
   have fin:∀ (j:nM Code) (r2:Loop),({ ({ r with state:=.busy }:Loop) with state:=if j.isNone then .ready else .done,pending:=j }:Loop)=r2->σ2.get l=some (.raw (.loop { r with state:=.busy }))->K (.ret (.val (.bool j.isNone))) (σ2.set l (.raw (.loop r2))) ->
    ∃ v w',(Instr.endRound l j).run P w2=.ok v w'/\Wb σ w K (.returned v) w':=by
    intro j r2 hr2 g2 hk
    have hw2:w2.heap[l]?=some (.loop { r with state:=.busy }):=c2.ok.obj l _ (ZU g2)
    have hend:=run_endRound (P:=P) j hw2
    rw[hr2] at hend
    obtain⟨u1,u2,u3⟩:=W5 c2.ok g2 (.loop r2)
    exact⟨_,_,hend,_,_,hk,.val _,u1,ev2.trans u2⟩
   cases e with
   | normal=>exact fin none r hr' q2.1 q2.2
   | ret=>exact fin (some .ret) _ rfl q2.1 q2.2
   | exit i=>exact fin (some (.exit i)) _ rfl q2.1 q2.2
   | goto t=>exact q2.elim
   | panic c=>exact q2.elim
   | outgrown=>exact q2.elim
 | exit i=>exact q.elim
 | goto t=>exact q.elim
 | ret=>exact q.elim
 | panic c=>exact q.elim
 | outgrown=>exact q.elim
def WS(D:Nat):nK:={ target:=.collected D,args:=#[] }
def Oy(Q:Exit->List nK->Fr->Store->Prop)(ds:List nK)(fr:Fr)(σ:Store):nM Code->Prop
 | none=>Q .normal ds fr σ
 | some .ret=>Q .ret ds fr σ
 | some (.exit i)=>Q (.exit i) ds fr σ
 | _=>False
theorem TR(Q:Exit->List nK->Fr->Store->Prop)(ds:List nK)(fr:Fr)(σ:Store):Oy Q ds fr σ none=Q .normal ds fr σ:=rfl
theorem Ox(Q:Exit->List nK->Fr->Store->Prop)(ds:List nK)(fr:Fr)(σ:Store):Oy Q ds fr σ (some .ret)=Q .ret ds fr σ:=rfl
theorem KO(Q:Exit->List nK->Fr->Store->Prop)(ds:List nK)(fr:Fr)(σ:Store)(i:Nat):Oy Q ds fr σ (some (.exit i))=Q (.exit i) ds fr σ:=rfl
attribute [go_sem ↓] TR Ox KO
def AK(l D:Nat)(ds:List nK)(Q:Exit->List nK->Fr->Store->Prop)(fr:Fr):ZE->Store->Prop
 | .ret _,σ=>∃ r:Loop,σ.get l=some (.raw (.loop r))/\r.state≠.busy/\Oy Q (WS D::ds) fr (σ.set l (.raw (.loop { r with state:=.exhausted }))) r.pending
 | .pan pv,σ=>Q (.panic [{ v:=pv,recovered:=false }]) (WS D::ds) fr σ
theorem DWp.range{P:nE}{n:Nat}{ds:List nK}{g:nJ}{ps:nN Tmp}{assign body:Code}{Q:Exit->List nK->Fr->Store->Prop}{fr:Fr}{σ:Store}(hgB:dT n g=true)(gf:nL)(cap:nN nG)(hg:fr.ev g=.val (.func (.func gf) #[] cap))
 (h:∀ (D l:Nat) (r:Loop),Zm σ D->Zm ((D,.raw (.deferred (some [])))::σ) l->r.state=.ready->r.pending=none->r.params=ps->r.assign=assign->r.body=body->r.tmps.size=n->(∀ i v,i<n->fr i=.val v->r.tmps.getD i undef=v) ->
  Zh P gf ([.val (.func (.yield l) #[] #[])]++cap.toList.map .val) ((l,.raw (.loop r))::(D,.raw (.deferred (some [])))::σ) (AK l D ds Q fr)):DWp P n ds (.rangeFunc g ps assign body) Q fr σ:=by
 intro a w hc Q' hq
 refine(mF (n:=0)).1 (wpIn_rangeFunc fun fn _=>?_)
 obtain⟨r,hr⟩:∃ r:Loop,r={ state:=.ready,pending:=none,fn:=fn,tmps:=a.tmps,params:=ps,assign,body,defers:=w.heap.size }:=⟨_,rfl⟩
 have hf1:=hc.ok.fresh (kO w.heap.size)
 have hs1:Zq ((w.heap.size,.raw (.deferred (some [])))::σ) (w.alloc (.deferred (some []))):=hc.ok.alloc _ _ (Xb w _)
 have e1:=Ev.alloc hc.ok (.deferred (some [])) (.raw (.deferred (some [])))
 have hsz:(w.alloc (.deferred (some []))).heap.size=w.heap.size+1:=by show(w.heap.push _).size=_;simp
 have hs2:=hs1.alloc (.loop r) (.raw (.loop r)) (Xb _ _)
 have e2:=Ev.alloc hs1 (.loop r) (.raw (.loop r))
 have hf2:=hs1.fresh (b:=w.heap.size+1) xh
 rw[hsz] at hs2 e2
 have hcall:=h w.heap.size (w.heap.size+1) r hf1 hf2 (by rw[hr]) (by rw[hr]) (by rw[hr]) (by rw[hr]) (by rw[hr]) (by rw[hr];exact hc.fr.size) (fun i v hi hv=>by
  rw[hr]
  have:=hc.fr.slot i hi
  rw[hv] at this
  generalize a.tmps.getD i undef=u at this
  cases this
  rfl)
 have hgv:=hc.fr.operand (a:=a) hgB
 rw[hg] at hgv
 generalize hq0:a.eval g=gv at hgv
 cases hgv
 have hrun:=run_enterLoop_outer (P:=P) (w:=w) fn a.tmps ps assign body
 rw[<- hr] at hrun
 have hres:(resolve a.eval (rangeCall g (w.heap.size+1)) 0).run P ((w.alloc (.deferred (some []))).alloc (.loop r))=.ok { target:=.fn (.func gf) cap,args:=#[.func (.yield (w.heap.size+1)) #[] #[]] } ((w.alloc (.deferred (some []))).alloc (.loop r)):=by
  have hy:a.eval (.const (.func (.yield (w.heap.size+1)) #[] #[]))=.func (.yield (w.heap.size+1)) #[] #[]:=rfl
  simp[resolve,hq0,hy,Deferred.ofValue]
 have hinv:(invoke (.fn (.func gf) cap) #[.func (.yield (w.heap.size+1)) #[] #[]]).run P ((w.alloc (.deferred (some []))).alloc (.loop r))=.ok (.enter gf (#[.func (.yield (w.heap.size+1)) #[] #[]]++cap)) ((w.alloc (.deferred (some []))).alloc (.loop r)):=by
  simp only[invoke,XN hcall.1]
 have hc2:=hcall.2 _ (#[.func (.yield (w.heap.size+1)) #[] #[]]++cap) hs2 (by
  refine⟨by simp,fun i x v hx hv=>?_⟩
  have:([Value.func (.yield (w.heap.size+1)) #[] #[]]++cap.toList)[i]?=some v:=by simpa using hv
  have hx':(([Value.func (.yield (w.heap.size+1)) #[] #[]]++cap.toList).map AV.val)[i]?=some x:=by simpa using hx
  rw[jp,this] at hx'
  simp only[jX,jq] at hx'
  rw[<- hx']
  exact V.val _)
 refine⟨w.heap.size+1,_,_,_,_,gf,_,_,hrun,hres,fun _ _=>trivial,hinv,fun h=>by simp[Fence.wide] at h,?_⟩
 refine(callsIn_wide (n:=0-1)).2 (hc2.mono fun e w3 hR=>?_)
 have ee:=e1.trans e2
 cases e with
 | returned v =>
   obtain⟨av,σ3,hk,hv,ho,hev⟩:=hR
   obtain⟨r3,hgl,hnb,hk⟩:=hk
   have hw3:w3.heap[w.heap.size+1]?=some (.loop r3):=ho.obj _ _ (ZU hgl)
   have hend:=run_endLoop (P:=P) hw3 hnb
   obtain⟨u1,u2,u3⟩:=W5 ho hgl (.loop { r3 with state:=.exhausted })
   refine⟨_,_,hend,?_⟩
   have hcf:YL n (WS w.heap.size::ds) (σ3.set (w.heap.size+1) (.raw (.loop { r3 with state:=.exhausted }))) fr { a with defers:=[WS w.heap.size]++a.defers } (w3.putObj (w.heap.size+1) (.loop { r3 with state:=.exhausted })) :=
    ⟨by rw[<- hc.defers];rfl,((hc.fr.ev ee).ev hev).ev u2,u1⟩
   have hv3:=(ee.trans hev).trans u2
   generalize hS:σ3.set (w.heap.size+1) (.raw (.loop { r3 with state:=.exhausted }))=S at hk hcf hv3
   generalize w3.putObj (w.heap.size+1) (.loop { r3 with state:=.exhausted })=W at hcf hv3 ⊢
   generalize r3.pending=pd at hk ⊢
   match pd,hk with
   | none,hk=>exact hq _ _ _ _ _ _ hk hcf hv3
   | some .ret,hk=>exact wpIn_ret (hq _ _ _ _ _ _ hk hcf hv3)
   | some (.exit i),hk=>exact wpIn_exit (hq _ _ _ _ _ _ hk hcf hv3)
 | panicked chain =>
   obtain⟨pv,σ3,rfl,hk,ho,hev⟩:=hR
   exact hq _ _ _ _ _ _ hk ⟨by rw[<- hc.defers];rfl,(hc.fr.ev ee).ev hev,ho⟩ (ee.trans hev)
 | outgrown=>exact hR.elim
open Go.RowKit
def Ux(P:nE)(fn:Func)(tmps:nN nG)(R:Ending->nH->Prop):List nK->FrameMode->nH->Prop
 | [],u,w=>Leaves P fn tmps R [] u w
 | d::ds,u,w=>(∃ D w',d=WS D/\(Instr.takeDeferred D).run P w=.ok [] w'/\Ux P fn tmps R ds u w')\/Leaves P fn tmps R (d::ds) u w
def D3(P:nE)(fn:Func)(R:Ending->nH->Prop)(u:FrameMode)(a:Act)(w:nH):Prop:=Ux P fn a.tmps R a.defers u w
def cA(P:nE)(fn:Func)(R:Ending->nH->Prop):Exit->Act->nH->Prop
 | .normal,a,w=>D3 P fn R .returning a w
 | .ret,a,w=>D3 P fn R .returning a w
 | .panic c,a,w=>D3 P fn R (.panicking c) a w
 | _,_,_=>False
theorem MG{P:nE}{fn:Func}{tmps:nN nG}{R:Ending->nH->Prop}:∀ (ds:List nK) (u:FrameMode) (w:nH) (fr:Frame) (cs:List Frame),fr.mode=u->fr.defers=ds->fr.tmps=tmps->P.funcs[fr.fn]?=some fn->fr.kind=.normal->u≠.run->Ux P fn tmps R ds u w ->
 ∃ e w' fr',R e w'/\Comes P (lone fr cs w) (lone fr' cs w') e/\fr'.fn=fr.fn/\fr'.leaving P w' e:=by
 intro ds
 induction ds with
 | nil=>intro u w fr cs hm hd ht hf hk hu h;exact leaves_steps [] u w fr cs hm hd ht hf hk h
 | cons d ds ih =>
   intro u w fr cs hm hd ht hf hk hu h
   rcases h with⟨D,w1,rfl,htk,h⟩|h
   ·obtain⟨e,w',fr',hR,hs,h1,h2⟩:=ih u w1 { fr with defers:=ds } cs hm rfl ht hf hk hu h
    exact⟨e,w',fr',hR,.of_steps (.one (step_collected (fr:=fr) (ds:=ds) (by rw[hm];exact hu) hd rfl htk)) hs,h1,h2⟩
   ·exact leaves_steps (d::ds) u w fr cs hm hd ht hf hk h
theorem Kw{P:nE}{fn:Func}{R:Ending->nH->Prop}{u:FrameMode}{a:Act}{w:nH}(h:D3 P fn R u a w)(hu:u≠.run){b:Frame}(hf:P.funcs[b.fn]?=some fn)(hk:b.kind=.normal)(todo:List Item)(cs:List Frame) :
 ∃ e w' fr',R e w'/\Comes P (lone { b.at a todo with mode:=u } cs w) (lone fr' cs w') e/\fr'.fn=b.fn/\fr'.leaving P w' e :=
 MG a.defers u w { b.at a todo with mode:=u } cs rfl rfl rfl hf hk hu h
theorem Pi{P:nE}{f:nL}{fn:Func}{c:Code}{args:nN nG}{w:nH}{R:Ending->nH->Prop}(hf:P.funcs[f]?=some fn)(hb:fn.body=some c)
 (h:c.wp P (cA P fn R) { tmps:=args++Array.replicate (fn.ntmps-args.size) undef,defers:=[] } w):Calls P f args w R:=by
 intro cs
 let b:Frame:={ (default:Frame) with fn:=f,kind:=.normal }
 have h0:Frame.enter P f args .normal=b.at { tmps:=args++Array.replicate (fn.ntmps-args.size) undef,defers:=[] } [.code c]:=by
  simp[Frame.enter,Frame.at,hf,hb,b]
 rw[h0]
 obtain⟨e,a,w1,q,arr⟩:=h b [] cs
 have go:∀ (u:FrameMode) (todo:List Item),u≠.run->D3 P fn R u a w1->Steps P (lone (b.at { tmps:=args++Array.replicate (fn.ntmps-args.size) undef,defers:=[] } [.code c]) cs w) (lone { b.at a todo with mode:=u } cs w1) ->
  ∃ e w' fr',R e w'/\Comes P (lone (b.at { tmps:=args++Array.replicate (fn.ntmps-args.size) undef,defers:=[] } [.code c]) cs w) (lone fr' cs w') e/\fr'.fn=f/\fr'.leaving P w' e:=by
  intro u todo hu ho st
  obtain⟨e,w',fr',hR,hs,h1,h2⟩:=Kw (b:=b) ho hu hf rfl todo cs
  exact⟨e,w',fr',hR,.of_steps st hs,h1,h2⟩
 cases e with
 | normal=>exact go _ [] xf q (Steps.trans arr (.one step_end))
 | ret=>obtain⟨todo,st⟩:=arr;exact go _ todo xf q st
 | panic ch=>obtain⟨todo,st⟩:=arr;exact go _ todo xf q st
 | exit i=>exact q.elim
 | goto l=>exact q.elim
 | outgrown=>exact q.elim
def YY(P:nE)(rs:List ResultVar)(R:ZE->Store->Prop)(fr:Fr):List nK->Store->Prop
 | [],σ=>Xf P rs R fr σ
 | d::ds,σ=>(∃ D,d=WS D/\σ.get D=some (.raw (.deferred (some [])))/\YY P rs R fr ds (σ.set D (.raw (.deferred none))))\/∃ g cap,d=dfr g cap/\ds=[]/\Vl P g cap.toList .returning .returning σ (Xf P rs R fr)
def AL(P:nE)(rs:List ResultVar)(R:ZE->Store->Prop):Exit->List nK->Fr->Store->Prop
 | .normal,ds,fr,σ=>YY P rs R fr ds σ
 | .ret,ds,fr,σ=>YY P rs R fr ds σ
 | .panic c,ds,fr,σ=>∃ D g cap pv,ds=[WS D,dfr g cap]/\σ.get D=some (.raw (.deferred (some [])))/\c=[{ v:=pv,recovered:=false }]/\Vl P g cap.toList (.panicking [{ v:=pv,recovered:=false }]) (.panicking [{ v:=pv,recovered:=true }]) (σ.set D (.raw (.deferred none))) (Xf P rs R fr)
 | _,_,_,_=>False
theorem Un{P:nE}{f:nL}{fn:Func}{c:Code}{args:List AV}{σ:Store}{R:ZE->Store->Prop}(hf:P.funcs[f]?=some fn)(hb:fn.body=some c)
 (hchk:(fn.results.toList.all (Kk fn.ntmps)&&decide (args.length<=fn.ntmps)&&YV P f)=true) (h:DWp P fn.ntmps [] c (AL P fn.results.toList R) (Fr.args args) σ):Zh P f args σ R:=by
 simp only[kJ,kD] at hchk
 obtain⟨⟨h2,h3⟩,h4⟩:=hchk
 refine⟨h4,fun w vs hσ hv=>?_⟩
 have hsz:vs.size=args.length:=by have:=hv.1;simp at this;omega
 refine Pi hf hb ?_
 have endK:∀ fr' σ' (a':Act) w',Xf P fn.results.toList R fr' σ'->XM fn.ntmps (live σ') w' fr' a'.tmps->Zq σ' w'->Ev σ w σ' w'->∃ v,(results fn a'.tmps).run P w'=.ok v w'/\Wb σ w R (.returned v) w':=by
  exact oN
 have inv:∀ (g:nL) (cap:nN nG) (w':nH),YV P g=true->(invoke (.fn (.func g) cap) #[]).run P w'=.ok (.enter g cap) w':=by
  exact tu
 have goD:∀ (u u':FrameMode) (hu:u≠.run) (hst:settle u'=.returning) (g:nL) (cap:nN nG) (fr':Fr) (σ':Store) (a':Act) (w':nH),Vl P g cap.toList u u' σ' (Xf P fn.results.toList R fr')->XM fn.ntmps (live σ') w' fr' a'.tmps->Zq σ' w'->Ev σ w σ' w' ->
  Leaves P fn a'.tmps (Wb σ w R) [dfr g cap] u w':=by
  exact oQ
 refine h _ w ⟨rfl,⟨by simp;omega,fun i hi=>?_⟩,hσ⟩ _ (fun e ds' fr' σ' a' w' q c' v=>?_)
 ·exact oA
 ·have hd:=c'.defers
  have leave:∀ (l:List nK) (σ2:Store) (w2:nH),YY P fn.results.toList R fr' l σ2->XM fn.ntmps (live σ2) w2 fr' a'.tmps->Zq σ2 w2->Ev σ w σ2 w2->Ux P fn a'.tmps (Wb σ w R) l .returning w2:=by
   exact pg
  cases e with
  | normal=>show Ux _ _ _ _ a'.defers _ _;rw[hd];exact leave ds' σ' w' q c'.fr c'.ok v
  | ret=>show Ux _ _ _ _ a'.defers _ _;rw[hd];exact leave ds' σ' w' q c'.fr c'.ok v
  | panic ch =>
    obtain⟨D,g,cap,pv,he,hD,rfl,hA⟩:=q
    obtain⟨t1,t2,t3⟩:=W5 c'.ok hD (.deferred none)
    have hw:w'.heap[D]?=some (.deferred (some [])):=c'.ok.obj D _ (ZU hD)
    show Ux _ _ _ _ a'.defers _ _
    rw[hd,he]
    exact .inl ⟨D,_,rfl,run_takeDeferred hw,.inr (goD _ _ xf rfl g cap fr' _ a' _ hA (c'.fr.ev t2) t1 (v.trans t2))⟩
  | exit i=>exact q.elim
  | goto l=>exact q.elim
  | outgrown=>exact q.elim
def bV(y:nI)(g:nL)(l:List Nat):Bool:=match y.op,y.guard with
 | .call { callee:=.value (.func f),args:=⟨a⟩,.. },none=>f == g&&a.map (fun|.tmp t=>some t|_=>none) == l.map some
 | _,_=>false
def Ext(P:nE)(g:nL)(args:List AV)(σ:Store)(av:AV):Prop :=
 ∀ (w:nH) (vs:nN nG),Zq σ w->Vs (live σ) w args vs.toList->∃ v,(callFunc g vs).run P w=.ok (.value v) w/\V (live σ) w av v
theorem AWp.ext{P:nE}{n:Nat}{ds:List nK}{mu:List Nat}{id:Nat}{pre post:List nI}{y:nI}{Q:Exit->Fr->Store->Prop}{fr:Fr}{σ:Store}(g:nL)(l:List Nat)
 (hchk:((pre++y::post).all (opB n)&&bV y g l)=true)
 (h:XU P mu ⟨pre++y::post⟩ pre (fun e fr σ=>e=.normal/\∃ av,Ext P g (l.map fr) σ av/\XU P mu ⟨pre++y::post⟩ post Q (fr.putO y.dst av) σ) fr σ):AWp P n ds (.region id ⟨pre++y::post⟩ false) Q fr σ:=by
 simp only[kJ] at hchk
 obtain⟨hB,hy⟩:=hchk
 have hBl:=List.all_eq_true.1 hB
 intro a w hc Q' hq ro m
 refine wpIn_region_list (Qc (YR hB) pre (fun o ho=>hBl o (my _ ho)) fr σ a w h hc (Ev.refl _ _) (fun fr1 σ1 a1 w1 q c v=>?_) (fun e fr' σ' a' w' hne q c v=>absurd q.1 hne))
 obtain⟨_,av,hx,hp⟩:=q
 unfold bV at hy
 split at hy
 ·rename_i f args ts hop hg
  simp only[kJ,beq_iff_eq] at hy
  obtain⟨rfl,hl⟩:=hy
  have hBy:=hBl y xf
  have hargs:args=l.map Operand.tmp:=by
   apply ml
   intro i
   have:=je (fun z=>z[i]?) hl
   simp only[jp] at this ⊢
   cases h1:args[i]? with
   | none=>rw[h1] at this;cases h2:l[i]? with
     | none=>rfl
     | some t=>rw[h2] at this;simp at this
   | some x=>rw[h1] at this;cases h2:l[i]? with
     | none=>rw[h2] at this;simp at this
     | some t=>rw[h2] at this;cases x<;>simp at this;subst this;rfl
  have hin:∀ t∈l,t<n:=by
   intro t ht
   have:=X7 hBy (.tmp t) (by rw[hop];simp[Op.operands,Call.operands,hargs,ht])
   simpa[dT] using this
  obtain⟨v1,hr,hv⟩:=hx w1 (args.toArray.map a1.eval) c.ok (by
   refine⟨by simp[hargs],fun i b u hb hu=>?_⟩
   simp only[jp,kQ] at hb
   obtain⟨t,ht,rfl⟩:=hb
   have:(l.map fun t=>a1.tmps.getD t undef)[i]?=some u:=by simpa[hargs,Act.eval] using hu
   rw[jp,ht] at this
   simp only[jX,jq] at this
   rw[<- this]
   exact c.fr.slot t (hin t (iG ht)))
  have hrun:(execOp a1.eval y).run P w1=.ok (.value v1) w1:=by
   unfold execOp
   rw[hop]
   have he:a1.eval (.func f)=.func (.func f) #[] #[]:=rfl
   simp only[jZ,resolve,he,Deferred.ofValue,kf,kC,invoke]
   simpa using hr
  refine wpListIn_step fun K hK=>?_
  rw[gZ yp]
  refine⟨fun _ _=>trivial,?_⟩
  rw[Oper.semAt_eq _ _ _ (fun c hc=>by rw[hop] at hc;cases hc),hrun,Oper.uponIn_value]
  exact hK _ _ (XT (ds:=ds) (YR hB) post (fun o ho=>hBl o (by simp[ho])) _ σ1 _ w1 hp ⟨by rw[ZJ];exact c.defers,c.fr.put (Xh hBy) hv,c.ok⟩ (fun e fr' σ' a' w' q c2 v2=>hq e fr' σ' a' w' q c2 (v.trans v2)) ro m)
 ·cases hy
open Go.RowKit
def F7(N:List nK->Fr->Store->Prop)(Q:Exit->List nK->Fr->Store->Prop):Exit->List nK->Fr->Store->Prop
 | .normal,ds,fr,σ=>N ds fr σ
 | e,ds,fr,σ=>Q e ds fr σ
theorem MY(N:List nK->Fr->Store->Prop)(Q:Exit->List nK->Fr->Store->Prop)(ds:List nK)(fr:Fr)(σ:Store):F7 N Q .normal ds fr σ=N ds fr σ:=rfl
theorem HD(N:List nK->Fr->Store->Prop)(Q:Exit->List nK->Fr->Store->Prop)(i:Nat)(ds:List nK)(fr:Fr)(σ:Store):F7 N Q (.exit i) ds fr σ=Q (.exit i) ds fr σ:=rfl
theorem F6(N:List nK->Fr->Store->Prop)(Q:Exit->List nK->Fr->Store->Prop)(ds:List nK)(fr:Fr)(σ:Store):F7 N Q .ret ds fr σ=Q .ret ds fr σ:=rfl
attribute [go_sem ↓] MY HD F6
theorem DWp.rounds{P:nE}{n:Nat}{ds:List nK}{c:Code}{Q:Exit->List nK->Fr->Store->Prop}{fr:Fr}{σ:Store}(St:Nat->List nK->Fr->Store->Prop)(k:Nat)(h0:St k ds fr σ)
 (h:∀ j ds fr σ,St j ds fr σ->DWp P n ds c (F7 (fun ds' fr' σ'=>∃ i,i<j/\St i ds' fr' σ') Q) fr σ):DWp P n ds (.loop c) Q fr σ:=by
 intro a w hc Q' hq
 refine(mF (n:=0)).1 (WI (fun m a' w'=>∃ ds' fr' σ',St m ds' fr' σ'/\YL n ds' σ' fr' a' w'/\Ev σ w σ' w') k ⟨ds,fr,σ,h0,hc,Ev.refl _ _⟩ ?_)
 rintro m a1 w1 ⟨ds1,fr1,σ1,hs,hc1,hv1⟩
 refine(mF (n:=0)).2 (h m ds1 fr1 σ1 hs a1 w1 hc1 _ (fun e ds' fr' σ' a' w' q c' v=>?_))
 cases e with
 | normal=>obtain⟨i,hi,hs2⟩:=q;exact⟨i,hi,ds',fr',σ',hs2,c',hv1.trans v⟩
 | exit i=>exact hq _ _ _ _ _ _ q c' (hv1.trans v)
 | goto l=>exact hq _ _ _ _ _ _ q c' (hv1.trans v)
 | ret=>exact hq _ _ _ _ _ _ q c' (hv1.trans v)
 | panic ch=>exact hq _ _ _ _ _ _ q c' (hv1.trans v)
 | outgrown=>exact hq _ _ _ _ _ _ q c' (hv1.trans v)
open Go.RowKit
theorem AWp.seq{P:nE}{n:Nat}{ds:List nK}{x y:Code}{Q:Exit->Fr->Store->Prop}{fr:Fr}{σ:Store}(h:AWp P n ds x (V9 (fun Q fr σ=>AWp P n ds y Q fr σ) Q) fr σ):AWp P n ds (.seq x y) Q fr σ:=by
 intro a w hc Q' hq ro m0
 refine wpIn_seq (h a w hc _ (fun e fr' σ' a' w' q c' v=>?_) ro m0)
 cases e with
 | normal=>exact q a' w' c' Q' (fun e2 fr2 σ2 a2 w2 q2 c2 v2=>hq e2 fr2 σ2 a2 w2 q2 c2 (v.trans v2)) ro m0
 | exit i=>exact hq _ _ _ _ _ q c' v
 | goto l=>exact hq _ _ _ _ _ q c' v
 | ret=>exact hq _ _ _ _ _ q c' v
 | panic ch=>exact hq _ _ _ _ _ q c' v
 | outgrown=>exact hq _ _ _ _ _ q c' v
theorem AWp.cond{P:nE}{n:Nat}{ds:List nK}{c:nJ}{x y:Code}{Q:Exit->Fr->Store->Prop}{fr:Fr}{σ:Store}(hB:dT n c=true)(b:Bool)(hb:fr.ev c=.val (.bool b))(h1:b=true->AWp P n ds x Q fr σ)(h2:b=false->AWp P n ds y Q fr σ):AWp P n ds (.cond c x y) Q fr σ:=by
 intro a w hc Q' hq ro m0
 have hv:=hc.fr.operand (a:=a) hB
 rw[hb] at hv
 generalize hx:a.eval c=x at hv
 cases hv
 exact wpIn_cond_split hx (fun hb=>h1 hb a w hc Q' hq ro m0) (fun hb=>h2 hb a w hc Q' hq ro m0)
theorem AWp.skip{P:nE}{n:Nat}{ds:List nK}{Q:Exit->Fr->Store->Prop}{fr:Fr}{σ:Store}(h:Q .normal fr σ):AWp P n ds .skip Q fr σ:=fun a w hc Q' hq ro m0=>wpIn_skip (hq _ _ _ _ _ h hc (Ev.refl _ _))
theorem AWp.block{P:nE}{n:Nat}{ds:List nK}{id:Nat}{x:Code}{Q:Exit->Fr->Store->Prop}{fr:Fr}{σ:Store}(h:AWp P n ds x (Ua id Q) fr σ):AWp P n ds (.block id x) Q fr σ:=by
 intro a w hc Q' hq ro m0
 refine wpIn_block (h a w hc _ (fun e fr' σ' a' w' q c' v=>?_) ro m0)
 exact pB
theorem AWp.loopT{P:nE}{n:Nat}{ds:List nK}{c:Code}{Q:Exit->Fr->Store->Prop}{fr:Fr}{σ:Store}{α:Type}(ch:List Nat)(l:α->List (Nat×AV))(S:α->Store)(I:α->Prop)(μ:α->Nat)(x:α)
 (h1:I x) (h2:JL (l x) fr) (h3:Sub (S x) σ)
 (hr:∀ x,I x->AWp P n ds c (Ow (Nx ch l S I μ x fr) Q) (Fr.turn ch (l x) fr) (S x)):AWp P n ds (.loop c) Q fr σ:=by
 intro a w hc Q' hq ro m0
 refine vP ?_
 rintro m a1 w1 ⟨y,hy,rfl,hc1,hv1⟩
 refine hr y hy a1 w1 hc1 _ (fun e fr' σ' a' w' q c' v=>?_) ro m0
 exact po
def Ww(id:Nat)(Q:Exit->List nK->Fr->Store->Prop):Exit->List nK->Fr->Store->Prop
 | .exit i,ds,fr,σ=>if i=id then Q .normal ds fr σ else Q (.exit i) ds fr σ
 | e,ds,fr,σ=>Q e ds fr σ
theorem DWp.block{P:nE}{n:Nat}{ds:List nK}{id:Nat}{x:Code}{Q:Exit->List nK->Fr->Store->Prop}{fr:Fr}{σ:Store}(h:DWp P n ds x (Ww id Q) fr σ):DWp P n ds (.block id x) Q fr σ:=by
 intro a w hc Q' hq
 refine wp_block (h a w hc _ (fun e ds' fr' σ' a' w' q c' v=>?_))
 cases e with
 | normal=>exact hq _ _ _ _ _ _ q c' v
 | exit i =>
   simp only[Ww] at q
   simp only[Exit.inBlock]
   split
   ·rename_i e;rw[gZ e] at q;exact hq _ _ _ _ _ _ q c' v
   ·rename_i e;rw[ig e] at q;exact hq _ _ _ _ _ _ q c' v
 | goto l=>exact hq _ _ _ _ _ _ q c' v
 | ret=>exact hq _ _ _ _ _ _ q c' v
 | panic ch=>exact hq _ _ _ _ _ _ q c' v
 | outgrown=>exact hq _ _ _ _ _ _ q c' v
inductive Ord where
 | done
 | alt (i:Nat) (t r:Ord)
def Ord.keys:Ord->List Nat
 | .done=>[]
 | .alt i _ r=>i::r.keys
def Ord.depth:Ord->Nat
 | .done=>0
 | .alt _ t r=>max (t.depth+1) r.depth
def eQ(ops:nN nI):Ord->nN Bool->Bool
 | .done,_=>true
 | .alt i t r,ls=>decide (Region.ready .any ops (ls.setIfInBounds i true)=t.keys)&&eQ ops t (ls.setIfInBounds i true)&&eQ ops r ls
def Ord.ok(ops:nN nI)(t:Ord):Bool:=decide (Region.ready .any ops (Array.replicate ops.size false)=t.keys)&&eQ ops t (Array.replicate ops.size false)&&decide (t.depth<=ops.size)
def Nk(t:Ord)(k:(Exit->Fr->Store->Prop)->Fr->Store->Prop):(Exit->Fr->Store->Prop)->Fr->Store->Prop:=fun Q fr σ=>match t with
 | .done=>Q .normal fr σ
 | .alt _ _ _=>k Q fr σ
def UW(P:nE)(mu:List Nat)(ops:nN nI):Ord->(Exit->Fr->Store->Prop)->Fr->Store->Prop
 | .done,_,_,_=>True
 | .alt i t r,Q,fr,σ=>(match ops[i]? with
  | some o=>XV ops o.guard fr (kDo P mu (Nk t (UW P mu ops t)) Q σ o) (Ov (Nk t (UW P mu ops t)) Q σ o.dst)
  | none=>False)/\UW P mu ops r Q fr σ
theorem Pj{P:nE}{ro:nM Nat}{mm:Nat}{mu:List Nat}{ops:nN nI}{n:Nat}{ds:List nK}{Q:Exit->Fr->Store->Prop}{Q':Exit->Act->nH->Prop}{σ0:Store}{w0:nH}(hB:∀ o∈ops.toList,opB n o=true)
 (hq:∀ e fr' σ' a' w',Q e fr' σ'->YL n ds σ' fr' a' w'->Ev σ0 w0 σ' w'->Q' e a' w') :
 ∀ (t:Ord) (fuel:Nat) (ls:nN Bool) (fr:Fr) (σ:Store) (a:Act) (w:nH),eQ ops t ls=true->t.depth<=fuel+1->UW P mu ops t Q fr σ->YL n ds σ fr a w->Ev σ0 w0 σ w ->
   ∀ j∈t.keys,wpOpIn (fen ro) mm P ops Q' j (wpAnyIn (fen ro) mm P .any ops Q' fuel (ls.setIfInBounds j true)) a w:=by
 have hn:∀ (j d:Nat),(ops[j]?).bind (·.dst)=some d->d<n:=YR (List.all_eq_true.2 hB)
 intro t
 induction t with
 | done=>intro fuel ls fr σ a w _ _ _ _ _ j hj;simp[Ord.keys] at hj
 | alt i t r iht ihr =>
   intro fuel ls fr σ a w hs hd h hc hv j hj
   simp only[eQ,kJ,kD] at hs
   obtain⟨⟨hs1,hs2⟩,hs3⟩:=hs
   simp only[Ord.depth] at hd
   simp only[UW] at h
   obtain⟨h1,h2⟩:=h
   rcases List.mem_cons.1 hj with rfl|hj
   ·split at h1
    case h_2=>exact h1.elim
    rename_i o ho
    have hBo:=hB o yw
    have hdst:=Xh hBo
    have next:∀ (fr':Fr) (σ':Store) (a':Act) (w':nH),Nk t (UW P mu ops t) Q fr' σ'->YL n ds σ' fr' a' w'->Ev σ0 w0 σ' w'->wpAnyIn (fen ro) mm P .any ops Q' fuel (ls.setIfInBounds j true) a' w':=by
     intro fr' σ' a' w' hk hc' hv'
     cases t with
     | done =>
       have hk':=hq _ _ _ _ _ hk hc' hv'
       cases fuel with
       | zero=>exact⟨hs1,hk'⟩
       | succ f=>exact⟨fun _=>hk',fun k hkk=>by rw[hs1] at hkk;simp[Ord.keys] at hkk⟩
     | alt i2 t2 r2 =>
       simp only[Ord.depth] at hd
       obtain⟨f,rfl⟩:∃ f,fuel=f+1:=⟨fuel-1,by omega⟩
       refine⟨fun he=>by rw[hs1] at he;simp[Ord.keys] at he,fun k hkk=>?_⟩
       rw[hs1] at hkk
       exact iht f _ fr' σ' a' w' hs2 (by simp only[Ord.depth];omega) hk hc' hv' k hkk
    unfold wpOpIn
    simp only[ho]
    rcases WU h1 hc.fr hn with⟨hw,fr',hf',hA⟩|⟨hw,fr',hf',hA⟩
    ·rw[gZ hw]
     refine YW hA a w hc.ok (fun x hx=>hf'.operand (X7 hBo x hx)) _ Q' (fun av σ' v w' hk hv2 hs he=>?_) (fun pv σ' w' hk hs he=>?_) ro mm
     ·exact next _ _ _ _ hk ⟨by rw[ZJ];exact hc.defers,(hf'.ev he).put hdst hv2,hs⟩ (hv.trans he)
     ·exact hq _ _ _ _ _ hk ⟨hc.defers,hf'.ev he,hs⟩ (hv.trans he)
    ·refine vJ ?_
     refine⟨fun _ _=>trivial,?_⟩
     exact next _ _ _ _ hA ⟨by rw[ZJ];exact hc.defers,hf'.put hdst (.val undef),hc.ok⟩ hv
   ·exact ihr fuel ls fr σ a w hs3 xh h2 hc hv j hj
theorem AWp.ord{P:nE}{n:Nat}{ds:List nK}{mu:List Nat}{id:Nat}{ops:nN nI}{Q:Exit->Fr->Store->Prop}{fr:Fr}{σ:Store}(i:Nat)(t r:Ord)(hm:P.follows .mixedOrders=true)(hB:ops.toList.all (opB n)=true)(hk:Ord.ok ops (.alt i t r)=true)
 (h:UW P mu ops (.alt i t r) Q fr σ):AWp P n ds (.region id ops true) Q fr σ:=by
 intro a w hc Q' hq ro mm
 simp only[Ord.ok,kJ,kD] at hk
 obtain⟨⟨k1,k2⟩,k3⟩:=hk
 refine mB hm ?_
 have k3':Ord.depth (.alt i t r)<=ops.size:=k3
 simp only[Ord.depth] at k3'
 obtain⟨f,hf⟩:∃ f,ops.size=f+1:=⟨ops.size-1,by omega⟩
 have ev:=Ev.drew σ w
 have key:=Pj (P:=P) (ro:=ro) (mm:=mm) (mu:=mu) (ops:=ops) (n:=n) (ds:=ds) (Q:=Q) (Q':=Q') (σ0:=σ) (w0:=w) (List.all_eq_true.1 hB) hq (.alt i t r) f (Array.replicate ops.size false) fr σ a _ k2 xh h ⟨hc.defers,hc.fr.ev ev,hc.ok.drew⟩ ev
 rw[hf] at k1 key ⊢
 exact⟨fun he=>by rw[k1] at he;simp[Ord.keys] at he,fun j hj=>key j (by rw[<- k1];exact hj)⟩
theorem Wo(P:nE)(mu:List Nat)(ops:nN nI)(Q:Exit->Fr->Store->Prop)(fr:Fr)(σ:Store):UW P mu ops .done Q fr σ=True:=rfl
theorem XY(k:(Exit->Fr->Store->Prop)->Fr->Store->Prop)(Q:Exit->Fr->Store->Prop)(fr:Fr)(σ:Store):Nk .done k Q fr σ=Q .normal fr σ:=rfl
theorem WD(i:Nat)(t r:Ord)(k:(Exit->Fr->Store->Prop)->Fr->Store->Prop)(Q:Exit->Fr->Store->Prop)(fr:Fr)(σ:Store):Nk (.alt i t r) k Q fr σ=k Q fr σ:=rfl
theorem BC(l:List nI)(i:Nat):(Array.mk l)[i]?=l[i]?:=by simp
theorem LM{P:nE}{g:nL}{fn:Func}{rest:Code}{id:Nat}{o:nI}{r:List nI}{cap:List nG}{u u':FrameMode}{rv:nG}{σ:Store}{K:Store->Prop}(mu:List Nat)(hR:Rec u rv u')
 (hf:P.funcs[g]?=some fn) (hb:fn.body=some (.seq (.region id ⟨o::r⟩ false) rest)) (d:Nat) (hres:fn.results=#[])
 (hchk:((o::r).all (opB fn.ntmps)&&decide (cap.length<=fn.ntmps)&&YV P g&&Cj o&&decide (o.dst=some d)&&r.all mvB)=true)
 (h:XU P mu ⟨o::r⟩ r (V9 (fun Q fr σ=>AWp P fn.ntmps [] rest Q fr σ) (HC K)) ((Fr.args (cap.map .val)).put d (.val rv)) σ):Vl P g cap u u' σ K:=by
 simp only[kJ,kD] at hchk
 obtain⟨⟨⟨⟨⟨h1,h3⟩,h4⟩,h5⟩,h6⟩,h7⟩:=hchk
 refine⟨h4,fun w hσ=>?_⟩
 refine callsD_of_wpS hf hb (fun c₀ cs hu=>?_)
 have hall:∀ o'∈o::r,opB fn.ntmps o'=true:=by
  exact List.all_eq_true.1 h1
 have hargs:XM fn.ntmps (live σ) w (Fr.args (cap.map .val)) (cap.toArray++Array.replicate (fn.ntmps-cap.toArray.size) undef):=by
  exact oF
 refine wpS_seq (wpS_region ?_)
 have hrange:List.range (Array.mk (o::r)).size=0::List.range' 1 r.length:=by
  simp[lP,lV]
 rw[hrange]
 simp only[wpOpsS,mf,kU]
 obtain⟨hg,hrun⟩:=J7 (P:=P) (o:=o) (a:={ tmps:=cap.toArray++Array.replicate (fn.ntmps-cap.toArray.size) undef,defers:=[] }) (w:=w) h5
 rw[gZ yp,hrun]
 simp only
 have go:∀ cs',cs'={ c₀ with mode:=u' }::cs->wpOpsS P ⟨o::r⟩ (Exit.thenS (rest.wpS P (bodyPostS P fn c₀ cs (fun e u2 w'=>(∃ v,e=.returned v)/\u2=u'/\∃ σ',K σ'/\Zq σ' w'/\Ev σ w σ' w'))) (bodyPostS P fn c₀ cs (fun e u2 w'=>(∃ v,e=.returned v)/\u2=u'/\∃ σ',K σ'/\Zq σ' w'/\Ev σ w σ' w'))) (List.range' 1 r.length)
  (({ tmps:=cap.toArray++Array.replicate (fn.ntmps-cap.toArray.size) undef,defers:=[] }:Act).put o.dst rv) cs' w:=by
  intro cs' hcs
  refine RS (ds:=[]) (YR (List.all_eq_true.2 hall)) r 1 (fun j=>by simp[Nat.add_comm]) (fun o' ho'=>⟨hall o' (kR _ ho'),List.all_eq_true.1 h7 o' ho'⟩) _ σ _ w h ⟨?_,?_,hσ⟩ (fun e fr' σ' a' w' q c v=>?_)
  ·rw[ZJ]
  ·exact rY
  ·have fin:∀ (e:Exit) (fr2:Fr) (σ2:Store) (a2:Act) (w2:nH),HC K e fr2 σ2->YL fn.ntmps [] σ2 fr2 a2 w2->Ev σ w σ2 w2->bodyPostS P fn c₀ cs (fun e u2 w'=>(∃ v,e=.returned v)/\u2=u'/\∃ σ',K σ'/\Zq σ' w'/\Ev σ w σ' w') e a2 cs' w2:=by
    exact pe
   cases e with
   | normal =>
     refine wpS_of_wp ?_
     exact(mF (n:=0)).1 (q a' w' c _ (fun e fr2 σ2 a2 w2 q2 c2 v2=>fin e fr2 σ2 a2 w2 q2 c2 (v.trans v2)) none 0)
   | exit i=>exact fin (.exit i) fr' σ' a' w' q c v
   | goto l=>exact fin (.goto l) fr' σ' a' w' q c v
   | ret=>exact fin .ret fr' σ' a' w' q c v
   | panic ch=>exact fin (.panic ch) fr' σ' a' w' q c v
   | outgrown=>exact fin .outgrown fr' σ' a' w' q c v
 exact pM
end Go.Vx
end
