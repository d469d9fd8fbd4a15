/- Part Q13 of the proof of treeLooksProved: the walk of the program on abstract values, and the plain law. -/
import Derived.Test.YtmedmnondjmleaaGreatQ12
import Derived.RangeFuncIn
import Derived.RangeFuncLeaves
import Derived.RangeFuncRecord
set_option linter.unusedVariables false
set_option linter.unusedSimpArgs false
section
namespace Go.Vx
open Go.RowKit
def Xl (o:Oper):Bool:=match o.op with
 | .defer _=>false
 | _=>true
theorem JY {P:Program}{mu:List Nat}{ops:Array Oper}{n:Nat}{ds:List Deferred}(hn:∀ (j d:Nat),(ops[j]?).bind (·.dst)=some d→d<n){Q:Exit→Fr→Store→Prop}(hQ:∀ e fr σ,Q e fr σ→e=.normal){b:Frame}{kk:List Item}{cs:List Frame} :
 ∀ (l:List Oper) (k:Nat) (post:List Nat),(∀ j,j<l.length→l[j]?=ops[k+j]?)→(∀ o∈l,opB n o=true∧Xl o=true)→∀ (fr:Fr) (σ:Store) (a:Act) (w:World),Y7 P mu ops l Q fr σ→Y4 n ds σ fr a w →
   ∃ fr' σ' a' w',Q .normal fr' σ'∧Y4 n ds σ' fr' a' w'∧Ev σ w σ' w'∧Steps P (lone (b.atR a (.inRegion ops (List.range' k l.length++post)::kk)) cs w) (lone (b.atR a' (.inRegion ops post::kk)) cs w'):=by
 intro l
 induction l with
 | nil=>intro k post _ _ fr σ a w h hc;exact ⟨fr,σ,a,w,h,hc,Ev.refl _ _,Steps.refl _ _⟩
 | cons o r ih =>
   intro k post hl hB fr σ a w h hc
   obtain ⟨hBo,hnd⟩:=hB o List.mem_cons_self
   have hdst:=Xk hBo
   have h0:ops[k]?=some o:=by have:=hl 0 (by simp);simpa using this.symm
   have hl':∀ j,j<r.length→r[j]?=ops[k+1+j]?:=fun j hj=>by have:=hl (j+1) (by simpa using hj);simpa [Nat.add_assoc,Nat.add_comm 1 j] using this
   have hB':∀ o∈r,opB n o=true∧Xl o=true:=fun o ho=>hB o (List.mem_cons_of_mem _ ho)
   simp only [Y7] at h
   simp only [List.length_cons,List.range'_succ,List.cons_append]
   have hfin:∀ v,(b.atR a (.inRegion ops (k::(List.range' (k+1) r.length++post))::kk)).finish v=b.atR (a.put o.dst v) (.inRegion ops (List.range' (k+1) r.length++post)::kk):=by
    intro v;rw [Frame.finish_atR,h0];rfl
   rcases Wb h hc.fr hn with ⟨hw,fr',hf',hA⟩ | ⟨hw,fr',hf',hA⟩
   ·have hg:=stepGR_op (P:=P) (b:=b) (k:=kk) (cs:=cs) (w:=w) (rest:=List.range' (k+1) r.length++post) h0 hw
    rw [Oper.semAt_eq b.roundOf a.eval o (fun c hc=>by simp [Xl,hc] at hnd)] at hg
    have hs:=Xi hA a w hc.ok (fun x hx=>hf'.operand (Wj hBo x hx))
     (fun a1 w1=>∃ fr' σ' a' w',Q .normal fr' σ'∧Y4 n ds σ' fr' a' w'∧Ev σ w σ' w'∧Steps P (lone (b.atR a1 (.inRegion ops (List.range' (k+1) r.length++post)::kk)) cs w1) (lone (b.atR a' (.inRegion ops post::kk)) cs w'))
     (fun _ _ _=>False) (fun av σ' v w' hk hv hs he=>?_) (fun pv σ' w' hk hs he=>?_)
    ·unfold Oper.wp at hs
     generalize hrun:(execOp a.eval o).run P w=rr at hs
     unfold Oper.upon at hs
     split at hs
     ·rename_i v w'
      obtain ⟨fr2,σ2,a2,w2,q,c,v2,st⟩:=hs
      refine ⟨fr2,σ2,a2,w2,q,c,v2,.head (step_lone_go ?_) st⟩
      rw [hg,← hfin];simp [stepG.apply,hrun]
     ·rename_i w'
      obtain ⟨fr2,σ2,a2,w2,q,c,v2,st⟩:=hs
      refine ⟨fr2,σ2,a2,w2,q,c,v2,.head (step_lone_go ?_) st⟩
      rw [hg,← hfin];simp [stepG.apply,hrun]
     ·rename_i d w'
      obtain ⟨fr2,σ2,a2,w2,q,c,v2,st⟩:=hs
      refine ⟨fr2,σ2,a2,w2,q,c,v2,.head (step_lone_go ?_) st⟩
      have hfd:({ b.atR a (.inRegion ops (k::(List.range' (k+1) r.length++post))::kk) with defers:=d::a.defers }:Frame).finish undef =
       b.atR ({ a with defers:=d::a.defers }.put o.dst undef) (.inRegion ops (List.range' (k+1) r.length++post)::kk):=by
       have:=Frame.finish_atR b { a with defers:=d::a.defers } ops k (List.range' (k+1) r.length++post) kk undef
       rw [h0] at this;exact this
      rw [hg];simp only [stepG.apply,Sem.runT_eq,hrun,GStep.bare_after]
      exact congrArg (fun fr=>GStep.go { frame:=fr,callers:=cs,status:=.running,dying:=none } w') hfd
     ·rename_i f args w'
      obtain ⟨e,w'',frX,hR,hsteps,_,hleave⟩:=hs (b.atR a (.inRegion ops (k::(List.range' (k+1) r.length++post))::kk)::cs)
      have henter:step P (lone (b.atR a (.inRegion ops (k::(List.range' (k+1) r.length++post))::kk)) cs w) =
       .next (lone (Frame.enter P f args .normal) (b.atR a (.inRegion ops (k::(List.range' (k+1) r.length++post))::kk)::cs) w') :=
       step_lone_go (by rw [hg];simp [stepG.apply,hrun,Frame.atR])
      cases e with
      | returned v =>
        obtain ⟨fr2,σ2,a2,w2,q,c,v2,st⟩:=hR
        refine ⟨fr2,σ2,a2,w2,q,c,v2,.head henter (Steps.trans hsteps (.head ?_ st))⟩
        rw [← hfin];exact step_leave_returned hleave
      | panicked chain=>exact hR.elim
      | outgrown=>obtain ⟨_,_,hR⟩:=hR;exact hR.elim
     ·rename_i row args w'
      obtain ⟨v,w'',hR,hsteps⟩:=hs (b.atR a (.inRegion ops (k::(List.range' (k+1) r.length++post))::kk)) cs
      have henter:step P (lone (b.atR a (.inRegion ops (k::(List.range' (k+1) r.length++post))::kk)) cs w) =
       .next (lone (Frame.ofRow P row args .normal) (b.atR a (.inRegion ops (k::(List.range' (k+1) r.length++post))::kk)::cs) w') :=
       step_lone_go (by rw [hg];simp [stepG.apply,hrun,Frame.atR])
      obtain ⟨fr2,σ2,a2,w2,q,c,v2,st⟩:=hR
      refine ⟨fr2,σ2,a2,w2,q,c,v2,.head henter (Steps.trans ?_ st)⟩
      rw [← hfin];exact hsteps
     ·exact hs.elim
     ·exact hs.elim
    ·obtain ⟨fr2,σ2,a2,w2,q,c,v2,st⟩:=ih (k+1) post hl' hB' (fr'.putO o.dst av) σ' _ w' hk ⟨by rw [ZI];exact hc.defers,(hf'.ev he).put hdst hv,hs⟩
     exact ⟨fr2,σ2,a2,w2,q,c,he.trans v2,st⟩
    ·exact absurd (hQ _ _ _ hk) (by simp)
   ·have hstep:=stepR_op_skip (P:=P) (b:=b) (a:=a) (k:=kk) (cs:=cs) (w:=w) (ops:=ops) (i:=k) (rest:=List.range' (k+1) r.length++post) (by rw [h0];simpa using hw)
    rw [h0] at hstep
    obtain ⟨fr2,σ2,a2,w2,q,c,v2,st⟩:=ih (k+1) post hl' hB' _ σ (a.put o.dst undef) w hA ⟨by rw [ZI];exact hc.defers,hf'.put hdst (.val undef),hc.ok⟩
    exact ⟨fr2,σ2,a2,w2,q,c,v2,.head hstep st⟩
theorem TO {σ:Store}{w:World}(hσ:Zo σ w){b:Nat}{o:Obj}(h:σ.get b=some (.raw o))(o':Obj) :
 Zo (σ.set b (.raw o')) (w.putObj b o')∧Ev σ w (σ.set b (.raw o')) (w.putObj b o')∧live (σ.set b (.raw o'))=live σ:=by
 have hl:=Qp hσ.nodup h (y:=.raw o') rfl
 have hb:b<w.heap.size:=(hσ.obj b _ (ZW h)).lt
 have ev:Ev σ w (σ.set b (.raw o')) (w.putObj b o'):=Ev.turn (fun _ _ _ hx=>by rw [hl] at hx;exact hx) rfl rfl rfl (by simp) (fun b' hne=>World.putObj_heap_other hne)
  (fun x hx=>absurd ⟨_,ZW h,trivial⟩ hx) ⟨0,_,ZW h,trivial⟩ (Nat.le_refl _)
 exact ⟨hσ.set h ev (fun b' hne=>World.putObj_heap_other hne) (World.putObj_heap_same hb),ev,hl⟩
theorem N7 {P:Program}{mu:List Nat}{n:Nat}{l:Nat}{r:Loop}{id1 id2 id3:Nat}{la lb:List Oper}(hra:r.assign=.region id1 ⟨la⟩ false)(hrb:r.body=.block id2 (.region id3 ⟨lb⟩ false))(hrs:r.state=.ready)(hrp:r.pending=none)
 (hna:la.all (opB n)=true) (hnb:lb.all (opB n)=true) (hda:la.all Xl=true) (hdb:lb.all Xl=true)
 {Q1 Q2:Exit→Fr→Store→Prop} (hQ1:∀ e fr σ,Q1 e fr σ→e=.normal) (hQ2:∀ e fr σ,Q2 e fr σ→e=.normal)
 {σ:Store} {fr:Fr} {tmps:Array Value} {w:World} (hσ:Zo σ w) (hf:Wc n (live σ) w fr tmps)
 (ha:Y7 P mu ⟨la⟩ la Q1 fr σ) (hb:∀ fr1 σ1,Q1 .normal fr1 σ1→σ1.get l=some (.raw (.loop r))∧Y7 P mu ⟨lb⟩ lb Q2 fr1 (σ1.set l (.raw (.loop { r with state:=.busy }))))
 (he:∀ fr2 σ2,Q2 .normal fr2 σ2→σ2.get l=some (.raw (.loop { r with state:=.busy }))) (c:Frame) (cs:List Frame) :
 ∃ fr2 σ2 w2,Q2 .normal fr2 σ2∧Zo (σ2.set l (.raw (.loop r))) w2∧Ev σ w (σ2.set l (.raw (.loop r))) w2 ∧
   Steps P (lone (Frame.round l r.fn tmps r.assign r.body .normal) (c::cs) w) (lone (c.finish (.bool true)) cs w2):=by
 let b:Frame:={ (default:Frame) with fn:=r.fn,kind:=.normal,roundOf:=some l }
 have hb0:Frame.round l r.fn tmps r.assign r.body .normal=b.atR { tmps:=tmps,defers:=[] } [.code r.assign,.beginRound,.code r.body]:=by
  simp [Frame.round,Frame.atR,b]
 rw [hb0,hra,hrb]
 have rng:∀ (x:List Oper),List.range (Array.mk x).size=List.range' 0 x.length++[]:=fun x=>by simp [List.range_eq_range']
 have both:∀ (x:List Oper),x.all (opB n)=true→x.all Xl=true→∀ o∈x,opB n o=true∧Xl o=true:=fun x h1 h2 o ho=>⟨List.all_eq_true.1 h1 o ho,List.all_eq_true.1 h2 o ho⟩
 obtain ⟨fr1,σ1,a1,w1,q1,c1,v1,s1⟩:=JY (b:=b) (kk:=[.beginRound,.code (.block id2 (.region id3 ⟨lb⟩ false))]) (cs:=c::cs) (ds:=[]) (YZ (ops:=⟨la⟩) hna) hQ1 la 0 [] (fun j _=>by simp) (both la hna hda) fr σ { tmps:=tmps,defers:=[] } w ha ⟨rfl,hf,hσ⟩
 obtain ⟨g1,hb1⟩:=hb fr1 σ1 q1
 have hw1:w1.heap[l]?=some (.loop r):=c1.ok.obj l _ (ZW g1)
 obtain ⟨t1,t2,t3⟩:=TO c1.ok g1 (.loop { r with state:=.busy })
 obtain ⟨fr2,σ2,a2,w2,q2,c2,v2,s2⟩:=JY (b:=b) (kk:=[.inBlock id2]) (cs:=c::cs) (ds:=[]) (YZ (ops:=⟨lb⟩) hnb) hQ2 lb 0 [] (fun j _=>by simp) (both lb hnb hdb) fr1 _ a1 _ hb1 ⟨c1.defers,c1.fr.ev t2,t1⟩
 have g2:=he fr2 σ2 q2
 have hw2:w2.heap[l]?=some (.loop { r with state:=.busy }):=c2.ok.obj l _ (ZW g2)
 have hend:=run_endRound (P:=P) none hw2
 have hr':({ ({ r with state:=.busy }:Loop) with state:=if (none:Option Code).isNone then LoopState.ready else .done,pending:=none }:Loop)=r:=by
  cases r;simp at hrs hrp;subst hrs;subst hrp;rfl
 rw [hr'] at hend
 obtain ⟨u1,u2,u3⟩:=TO c2.ok g2 (.loop r)
 refine ⟨fr2,σ2,_,q2,u1,((v1.trans t2).trans v2).trans u2,?_⟩
 refine .head (stepR_region) ?_
 rw [rng]
 refine Steps.trans s1 (.head stepR_region_end (.head (stepR_beginRound rfl (run_beginRound hw1 hrs)) (.head stepR_block (.head stepR_region ?_))))
 rw [rng]
 exact Steps.trans s2 (.head stepR_region_end (.head stepR_inBlock (.one (stepR_round_end rfl rfl hend))))
def dG (tmps:Array Value):Fr:=fun i=>.val (tmps.getD i undef)
theorem dR (L:Nat→Nat→Prop)(w:World)(tmps:Array Value):Wc tmps.size L w (dG tmps) tmps:=⟨rfl,fun i _=>V.val _⟩
def NK (P:Program)(mu:List Nat)(ops:Array Oper)(post:List Oper)(Q:Exit→Fr→Store→Prop)(j t:Nat)(d:Option Nat):Exit→Fr→Store→Prop:=fun e fr1 σ1 =>
 e=.normal∧∃ (l:Nat) (r:Loop) (p id1 id2 id3:Nat) (la lb:List Oper) (mu2:List Nat) (Q1 Q2:Exit→Fr→Store→Prop),
  fr1 j=.val (.func (.yield l) #[] #[])∧σ1.get l=some (.raw (.loop r))∧r.params=#[p]∧r.assign=.region id1 ⟨la⟩ false∧r.body=.block id2 (.region id3 ⟨lb⟩ false)∧r.state=.ready∧r.pending=none ∧
  (la.all (opB r.tmps.size)&&lb.all (opB r.tmps.size)&&la.all Xl&&lb.all Xl&&decide (p<r.tmps.size))=true ∧
  (∀ e fr σ,Q1 e fr σ→e=.normal)∧(∀ e fr σ,Q2 e fr σ→e=.normal) ∧
  Y7 P mu2 ⟨la⟩ la Q1 ((dG r.tmps).put p (fr1 t)) σ1 ∧
  (∀ fr' σ',Q1 .normal fr' σ'→σ'.get l=some (.raw (.loop r))∧Y7 P mu2 ⟨lb⟩ lb Q2 fr' (σ'.set l (.raw (.loop { r with state:=.busy })))) ∧
  (∀ fr2 σ2,Q2 .normal fr2 σ2→σ2.get l=some (.raw (.loop { r with state:=.busy }))∧Y7 P mu ops post (fun e fr σ=>e=.normal∧Q .normal fr σ) (fr1.putO d (.val (.bool true))) (σ2.set l (.raw (.loop r))))
def HY (y:Oper)(j t:Nat):Bool:=match y.op,y.guard with
 | .call { callee:=.value (.tmp a),args:=⟨[.tmp b]⟩,.. },none=>a == j&&b == t
 | _,_=>false
theorem AWp.yield {P:Program}{n:Nat}{ds:List Deferred}{mu:List Nat}{id:Nat}{pre post:List Oper}{y:Oper}{Q:Exit→Fr→Store→Prop}{fr:Fr}{σ:Store}(j t:Nat)
 (hchk:((pre++y::post).all (opB n)&&pre.all Xl&&post.all Xl&&HY y j t&&decide (j<n)&&decide (t<n))=true)
 (h:Y7 P mu ⟨pre++y::post⟩ pre (NK P mu ⟨pre++y::post⟩ post Q j t y.dst) fr σ):AWp P n ds (.region id ⟨pre++y::post⟩ false) Q fr σ:=by
 simp only [Bool.and_eq_true,decide_eq_true_eq] at hchk
 obtain ⟨⟨⟨⟨⟨hB,hd1⟩,hd2⟩,hy⟩,hj⟩,ht⟩:=hchk
 intro a w hc Q' hq b0 k cs
 let b:Frame:={ b0 with roundOf:=none }
 have hb:∀ a td,b0.at a td=b.atR a td:=fun a td=>rfl
 have hBl:=List.all_eq_true.1 hB
 have hopn:=YZ (ops:=⟨pre++y::post⟩) hB
 have both:∀ (x:List Oper),(∀ o∈x,o∈pre++y::post)→x.all Xl=true→∀ o∈x,opB n o=true∧Xl o=true:=fun x h1 h2 o ho=>⟨hBl o (h1 o ho),List.all_eq_true.1 h2 o ho⟩
 obtain ⟨fr1,σ1,a1,w1,q1,c1,v1,s1⟩:=JY (b:=b) (kk:=k) (cs:=cs) (ds:=ds) hopn (fun e fr σ h=>h.1) pre 0 (List.range' pre.length (post.length+1)) (fun j hj=>by simp [List.getElem?_append_left hj]) (both pre (fun o ho=>List.mem_append_left _ ho) hd1) fr σ a w h hc
 obtain ⟨_,l,r,p,id1,id2,id3,la,lb,mu2,Q1,Q2,hfr,hget,hpar,hra,hrb,hrs,hrp,hck,hQ1,hQ2,ha,hbo,hpo⟩:=q1
 simp only [Bool.and_eq_true,decide_eq_true_eq] at hck
 obtain ⟨⟨⟨⟨k1,k2⟩,k3⟩,k4⟩,k5⟩:=hck
 have hw1:w1.heap[l]?=some (.loop r):=c1.ok.obj l _ (ZW hget)
 unfold HY at hy
 split at hy
 ·rename_i ja ta ts hop hg
  simp only [Bool.and_eq_true,beq_iff_eq] at hy
  obtain ⟨rfl,rfl⟩:=hy
  have hv:=c1.fr.slot ja hj
  rw [hfr] at hv
  have hev:a1.eval (.tmp ja)=a1.tmps.getD ja undef:=rfl
  generalize a1.tmps.getD ja undef=u at hv hev
  cases hv
  have hoy:(Array.mk (pre++y::post))[pre.length]?=some y:=by simp
  have hrun:(execOp a1.eval y).run P w1=.ok (.round l r.fn ((r.params.zip #[a1.eval (.tmp ta)]).foldl (fun tmps (t,a)=>tmps.setIfInBounds t a) r.tmps) r.assign r.body) w1:=by
   unfold execOp
   rw [hop]
   simp only [Sem.run_bind,resolve,hev,Deferred.ofValue,Sem.run_pure,Result.andThen_ok,invoke]
   have:=run_yield (P:=P) (args:=#[a1.eval (.tmp ta)]) hw1 (by rw [hpar];rfl)
   simpa using this
  have hwt:Region.wanted y (yielded (Array.mk (pre++y::post)) a1.tmps)=true:=by simp [Region.wanted,hg]
  have hgs:=stepGR_op (P:=P) (b:=b) (k:=k) (cs:=cs) (w:=w1) (rest:=List.range' (pre.length+1) post.length) hoy hwt
  rw [Oper.semAt_eq b.roundOf a1.eval y (fun c hc=>by rw [hop] at hc;cases hc)] at hgs
  have htm:((r.params.zip #[a1.eval (.tmp ta)]).foldl (fun tmps (t,a)=>tmps.setIfInBounds t a) r.tmps)=r.tmps.setIfInBounds p (a1.eval (.tmp ta)):=by
   have hz:(#[p]:Array Nat).zip #[a1.eval (.tmp ta)]=#[(p,a1.eval (.tmp ta))]:=by apply Array.ext';simp
   rw [hpar,hz];simp
  rw [htm] at hrun
  have hfr0:Wc r.tmps.size (live σ1) w1 ((dG r.tmps).put p (fr1 ta)) (r.tmps.setIfInBounds p (a1.eval (.tmp ta))) :=
   (dR (live σ1) w1 r.tmps).put (a:={ tmps:=r.tmps,defers:=[] }) (d:=some p) (fun k hk=>by injection hk with hk;rw [← hk];exact k5) (c1.fr.slot ta ht)
  obtain ⟨fr2,σ2,w2,q2,o2,v2,s2⟩:=N7 (l:=l) (r:=r) hra hrb hrs hrp k1 k2 k3 k4 hQ1 hQ2 c1.ok hfr0 ha hbo (fun fr2 σ2 q=>(hpo fr2 σ2 q).1) (b.atR a1 (.inRegion ⟨pre++y::post⟩ (pre.length::List.range' (pre.length+1) post.length)::k)) cs
  have hpo2:=(hpo fr2 σ2 q2).2
  have hdst:=Xk (hBl y (by simp))
  obtain ⟨fr3,σ3,a3,w3,q3,c3,v3,s3⟩:=JY (P:=P) (b:=b) (kk:=k) (cs:=cs) (ds:=ds) hopn (fun e fr σ h=>h.1) post (pre.length+1) [] (fun j hj=>by simp [List.getElem?_append_right,Nat.add_assoc,Nat.add_comm 1 j]) (both post (fun o ho=>by simp [ho]) hd2) _ _ (a1.put y.dst (.bool true)) w2 hpo2
   ⟨by rw [ZI];exact c1.defers,(c1.fr.ev v2).put hdst (.val _),o2⟩
  refine ⟨.normal,a3,w3,hq _ _ _ _ _ q3.2 c3 ((v1.trans v2).trans v3),?_⟩
  show Steps P (lone (b.atR a (.code (.region id ⟨pre++y::post⟩ false)::k)) cs w) (lone (b.atR a3 k) cs w3)
  refine .head stepR_region ?_
  have hrg:List.range (Array.mk (pre++y::post)).size=List.range' 0 pre.length++List.range' pre.length (post.length+1):=by
   have:=List.range'_append_1 (s:=0) (m:=pre.length) (n:=post.length+1)
   rw [Nat.zero_add] at this
   rw [this,List.range_eq_range']
   simp
  rw [hrg]
  refine Steps.trans s1 ?_
  rw [List.range'_succ]
  refine .head (step_lone_go ?_) (Steps.trans s2 ?_)
  ·rw [hgs];simp [stepG.apply,hrun]
  ·rw [Frame.finish_atR,hoy]
   simp only [List.append_nil] at s3
   exact Steps.trans s3 (.one stepR_region_end)
 ·cases hy
def QU (D:Nat):Deferred:={ target:=.collected D,args:=#[] }
def At (l D:Nat)(r:Loop)(ds:List Deferred)(Q:Exit→List Deferred→Fr→Store→Prop)(fr:Fr):ZO→Store→Prop
 | .ret _,σ=>σ.get l=some (.raw (.loop r))∧Q .normal (QU D::ds) fr (σ.set l (.raw (.loop { r with state:=.exhausted })))
 | .pan pv,σ=>Q (.panic [{ v:=pv,recovered:=false }]) (QU D::ds) fr σ
theorem DWp.range {P:Program}{n:Nat}{ds:List Deferred}{g:Operand}{ps:Array Tmp}{assign body:Code}{Q:Exit→List Deferred→Fr→Store→Prop}{fr:Fr}{σ:Store}(hgB:de n g=true)(gf:FuncId)(cap:Array Value)(hg:fr.ev g=.val (.func (.func gf) #[] cap))
 (h:∀ (D l:Nat) (r:Loop),Zx σ D→Zx ((D,.raw (.deferred (some [])))::σ) l→r.state=.ready→r.pending=none→r.params=ps→r.assign=assign→r.body=body→r.tmps.size=n→(∀ i v,i<n→fr i=.val v→r.tmps.getD i undef=v) →
  Zj P gf ([.val (.func (.yield l) #[] #[])]++cap.toList.map .val) ((l,.raw (.loop r))::(D,.raw (.deferred (some [])))::σ) (At l D r ds Q fr)):DWp P n ds (.rangeFunc g ps assign body) Q fr σ:=by
 intro a w hc Q' hq b0 k cs
 let b:Frame:={ b0 with roundOf:=none }
 obtain ⟨r,hr⟩:∃ r:Loop,r={ state:=.ready,pending:=none,fn:=b0.fn,tmps:=a.tmps,params:=ps,assign,body,defers:=w.heap.size }:=⟨_,rfl⟩
 have hf1:=hc.ok.fresh (Nat.le_refl w.heap.size)
 have hs1:Zo ((w.heap.size,.raw (.deferred (some [])))::σ) (w.alloc (.deferred (some []))):=hc.ok.alloc _ _ (Xp w _)
 have e1:=Ev.alloc hc.ok (.deferred (some [])) (.raw (.deferred (some [])))
 have hsz:(w.alloc (.deferred (some []))).heap.size=w.heap.size+1:=by show (w.heap.push _).size=_;simp
 have hs2:=hs1.alloc (.loop r) (.raw (.loop r)) (Xp _ _)
 have e2:=Ev.alloc hs1 (.loop r) (.raw (.loop r))
 have hf2:=hs1.fresh (b:=w.heap.size+1) (by omega)
 rw [hsz] at hs2 e2
 have hcall:=h w.heap.size (w.heap.size+1) r hf1 hf2 (by rw [hr]) (by rw [hr]) (by rw [hr]) (by rw [hr]) (by rw [hr]) (by rw [hr];exact hc.fr.size) (fun i v hi hv=>by
  rw [hr]
  have:=hc.fr.slot i hi
  rw [hv] at this
  generalize a.tmps.getD i undef=u at this
  cases this
  rfl)
 have hgv:=hc.fr.operand (a:=a) hgB
 rw [hg] at hgv
 generalize hq0:a.eval g=gv at hgv
 cases hgv
 have hrun:=run_enterLoop_outer (P:=P) (w:=w) b0.fn a.tmps ps assign body
 rw [← hr] at hrun
 have hres:(resolve a.eval (rangeCall g (w.heap.size+1)) 0).run P ((w.alloc (.deferred (some []))).alloc (.loop r))=.ok { target:=.fn (.func gf) cap,args:=#[.func (.yield (w.heap.size+1)) #[] #[]] } ((w.alloc (.deferred (some []))).alloc (.loop r)):=by
  have hy:a.eval (.const (.func (.yield (w.heap.size+1)) #[] #[]))=.func (.yield (w.heap.size+1)) #[] #[]:=rfl
  simp [resolve,hq0,hy,Deferred.ofValue]
 have hinv:(invoke (.fn (.func gf) cap) #[.func (.yield (w.heap.size+1)) #[] #[]]).run P ((w.alloc (.deferred (some []))).alloc (.loop r))=.ok (.enter gf (#[.func (.yield (w.heap.size+1)) #[] #[]]++cap)) ((w.alloc (.deferred (some []))).alloc (.loop r)):=by
  simp only [invoke,Wq hcall.1]
 have henter:=stepR_rangeFunc (P:=P) (b:=b) (a:=a) (k:=k) (cs:=cs) hrun hres hinv
 have hc2:=hcall.2 _ (#[.func (.yield (w.heap.size+1)) #[] #[]]++cap) hs2 (by
  refine ⟨by simp,fun i x v hx hv=>?_⟩
  have:([Value.func (.yield (w.heap.size+1)) #[] #[]]++cap.toList)[i]?=some v:=by simpa using hv
  have hx':(([Value.func (.yield (w.heap.size+1)) #[] #[]]++cap.toList).map AV.val)[i]?=some x:=by simpa using hx
  rw [List.getElem?_map,this] at hx'
  simp only [Option.map_some,Option.some.injEq] at hx'
  rw [← hx']
  exact V.val _)
 obtain ⟨e,w3,frX,hR,hsteps,hfn,hleave⟩:=hc2 (b.atR { a with defers:=[QU w.heap.size]++a.defers } (.inRangeFunc (w.heap.size+1)::k)::cs)
 have ee:=e1.trans e2
 cases e with
 | returned v =>
   obtain ⟨av,σ3,hk,hv,ho,hev⟩:=hR
   obtain ⟨hgl,hk⟩:=hk
   have hw3:w3.heap[w.heap.size+1]?=some (.loop r):=ho.obj _ _ (ZW hgl)
   have hend:=run_endLoop (P:=P) hw3 (by rw [hr];simp)
   obtain ⟨u1,u2,u3⟩:=TO ho hgl (.loop { r with state:=.exhausted })
   have hpend:r.pending=none:=by rw [hr]
   have hend':(Instr.endLoop (w.heap.size+1)).run P w3=.ok none (w3.putObj (w.heap.size+1) (.loop { r with state:=.exhausted })):=by rw [hend,hpend]
   refine ⟨.normal,{ a with defers:=[QU w.heap.size]++a.defers },_,hq _ _ _ _ _ _ hk ⟨by rw [← hc.defers];rfl,((hc.fr.ev ee).ev hev).ev u2,u1⟩ ((ee.trans hev).trans u2),?_⟩
   show Steps P (lone (b.atR a (.code (.rangeFunc g ps assign body)::k)) cs w) (lone (b.atR { a with defers:=[QU w.heap.size]++a.defers } k) cs _)
   refine .head henter (Steps.trans hsteps (.head ?_ (.one (stepR_endRangeFunc hend'))))
   rw [← finish_atR_inRangeFunc (w.heap.size+1) v];exact step_leave_returned hleave
 | panicked chain =>
   obtain ⟨pv,σ3,rfl,hk,ho,hev⟩:=hR
   refine ⟨.panic [{ v:=pv,recovered:=false }],{ a with defers:=[QU w.heap.size]++a.defers },w3,hq _ _ _ _ _ _ hk ⟨by rw [← hc.defers];rfl,(hc.fr.ev ee).ev hev,ho⟩ (ee.trans hev),.inRangeFunc (w.heap.size+1)::k,?_⟩
   refine .head henter (Steps.trans hsteps (.one ?_))
   exact step_leave_panicked hleave
 | outgrown=>exact hR.elim
end Go.Vx
end
section
namespace Go.Vx
open Go.RowKit
def K6 (P:Program)(fn:Func)(R:Ending→World→Prop)(u:FrameMode)(a:Act)(w:World):Prop :=
 (∃ D ds w',a.defers=QU D::ds∧(Instr.takeDeferred D).run P w=.ok [] w'∧Leaves P fn a.tmps R ds u w')∨Leaves P fn a.tmps R a.defers u w
def bY (P:Program)(fn:Func)(R:Ending→World→Prop):Exit→Act→World→Prop
 | .normal,a,w=>K6 P fn R .returning a w
 | .ret,a,w=>K6 P fn R .returning a w
 | .panic c,a,w=>K6 P fn R (.panicking c) a w
 | _,_,_=>False
theorem LZ {P:Program}{fn:Func}{R:Ending→World→Prop}{u:FrameMode}{a:Act}{w:World}(h:K6 P fn R u a w)(hu:u≠.run){b:Frame}(hf:P.funcs[b.fn]?=some fn)(hk:b.kind=.normal)(todo:List Item)(cs:List Frame) :
 ∃ e w' fr',R e w'∧Comes P (lone { b.at a todo with mode:=u } cs w) (lone fr' cs w') e∧fr'.fn=b.fn∧fr'.leaving P w' e:=by
 rcases h with ⟨D,ds,w1,hd,ht,h⟩ | h
 ·obtain ⟨e,w',fr',hR,hs,h1,h2⟩:=leaves_steps ds u w1 { b.at a todo with mode:=u,defers:=ds } cs rfl rfl rfl hf hk h
  exact ⟨e,w',fr',hR,.of_steps (.one (step_collected (fr:={ b.at a todo with mode:=u }) (ds:=ds) hu hd rfl ht)) hs,h1,h2⟩
 ·exact leaves_steps a.defers u w { b.at a todo with mode:=u } cs rfl rfl rfl hf hk h
theorem KE {P:Program}{f:FuncId}{fn:Func}{c:Code}{args:Array Value}{w:World}{R:Ending→World→Prop}(hf:P.funcs[f]?=some fn)(hb:fn.body=some c)
 (h:c.wp P (bY P fn R) { tmps:=args++Array.replicate (fn.ntmps-args.size) undef,defers:=[] } w):Calls P f args w R:=by
 intro cs
 let b:Frame:={ (default:Frame) with fn:=f,kind:=.normal }
 have h0:Frame.enter P f args .normal=b.at { tmps:=args++Array.replicate (fn.ntmps-args.size) undef,defers:=[] } [.code c]:=by
  simp [Frame.enter,Frame.at,hf,hb,b]
 rw [h0]
 obtain ⟨e,a,w1,q,arr⟩:=h b [] cs
 have go:∀ (u:FrameMode) (todo:List Item),u≠.run→K6 P fn R u a w1→Steps P (lone (b.at { tmps:=args++Array.replicate (fn.ntmps-args.size) undef,defers:=[] } [.code c]) cs w) (lone { b.at a todo with mode:=u } cs w1) →
  ∃ e w' fr',R e w'∧Comes P (lone (b.at { tmps:=args++Array.replicate (fn.ntmps-args.size) undef,defers:=[] } [.code c]) cs w) (lone fr' cs w') e∧fr'.fn=f∧fr'.leaving P w' e:=by
  intro u todo hu ho st
  obtain ⟨e,w',fr',hR,hs,h1,h2⟩:=LZ (b:=b) ho hu hf rfl todo cs
  exact ⟨e,w',fr',hR,.of_steps st hs,h1,h2⟩
 cases e with
 | normal=>exact go _ [] (by simp) q (Steps.trans arr (.one step_end))
 | ret=>obtain ⟨todo,st⟩:=arr;exact go _ todo (by simp) q st
 | panic ch=>obtain ⟨todo,st⟩:=arr;exact go _ todo (by simp) q st
 | exit i=>exact q.elim
 | goto l=>exact q.elim
 | outgrown=>exact q.elim
def Av (P:Program)(rs:List ResultVar)(R:ZO→Store→Prop):Exit→List Deferred→Fr→Store→Prop
 | .normal,ds,fr,σ=>(ds=[]∧XM P rs R fr σ)∨∃ D g cap,ds=[QU D,dfr g cap]∧σ.get D=some (.raw (.deferred (some [])))∧Vr P g cap.toList .returning .returning (σ.set D (.raw (.deferred none))) (XM P rs R fr)
 | .ret,ds,fr,σ=>(ds=[]∧XM P rs R fr σ)∨∃ D g cap,ds=[QU D,dfr g cap]∧σ.get D=some (.raw (.deferred (some [])))∧Vr P g cap.toList .returning .returning (σ.set D (.raw (.deferred none))) (XM P rs R fr)
 | .panic c,ds,fr,σ=>∃ D g cap pv,ds=[QU D,dfr g cap]∧σ.get D=some (.raw (.deferred (some [])))∧c=[{ v:=pv,recovered:=false }]∧Vr P g cap.toList (.panicking [{ v:=pv,recovered:=false }]) (.panicking [{ v:=pv,recovered:=true }]) (σ.set D (.raw (.deferred none))) (XM P rs R fr)
 | _,_,_,_=>False
theorem K0 {P:Program}{f:FuncId}{fn:Func}{c:Code}{args:List AV}{σ:Store}{R:ZO→Store→Prop}(hf:P.funcs[f]?=some fn)(hb:fn.body=some c)
 (hchk:(fn.results.toList.all (Ik fn.ntmps)&&decide (args.length≤fn.ntmps)&&Xn P f)=true) (h:DWp P fn.ntmps [] c (Av P fn.results.toList R) (Fr.args args) σ):Zj P f args σ R:=by
 simp only [Bool.and_eq_true,decide_eq_true_eq] at hchk
 obtain ⟨⟨h2,h3⟩,h4⟩:=hchk
 refine ⟨h4,fun w vs hσ hv=>?_⟩
 have hsz:vs.size=args.length:=by have:=hv.1;simp at this;omega
 refine KE hf hb ?_
 have endK:∀ fr' σ' (a':Act) w',XM P fn.results.toList R fr' σ'→Wc fn.ntmps (live σ') w' fr' a'.tmps→Zo σ' w'→Ev σ w σ' w'→∃ v,(results fn a'.tmps).run P w'=.ok v w'∧VJ σ w R (.returned v) w':=by
  intro fr' σ' a' w' q hfr hok v
  obtain ⟨us,as,r1,r2,v',σ2,k1,k3⟩:=Tv hfr hok _ _ h2 q
  have hrun:(results fn a'.tmps).run P w'=.ok (if h:us.toArray.size=1 then us.toArray[0] else .tuple us.toArray) w':=by
   unfold results
   rw [Array.mapM_eq_mapM_toList]
   simp only [Sem.run_bind,Sem.run_map,Sem.run_pure]
   erw [r1]
   rfl
  have hval:V (live σ') w' (db as) (if h:us.toArray.size=1 then us.toArray[0] else .tuple us.toArray):=by
   match as,us,r2 with
   | [],[],_=>exact V.tup [] [] rfl (by simp)
   | [a],[u],r2=>exact r2.2 0 a u rfl rfl
   | a::b::r,x::y::t,r2 =>
     simp only [List.size_toArray,List.length_cons,show ¬ (t.length+1+1=1) from by omega,dite_false,db]
     exact V.tup _ _ r2.1 r2.2
  obtain ⟨j1,j2,j3⟩:=k1 w' _ hok hval
  exact iQ
 have inv:∀ (g:FuncId) (cap:Array Value) (w':World),Xn P g=true→(invoke (.fn (.func g) cap) #[]).run P w'=.ok (.enter g cap) w':=by
  intro g cap w' he
  simp only [invoke,Wq he]
  simp
 have goD:∀ (u u':FrameMode) (hu:u≠.run) (hst:settle u'=.returning) (g:FuncId) (cap:Array Value) (fr':Fr) (σ':Store) (a':Act) (w':World),Vr P g cap.toList u u' σ' (XM P fn.results.toList R fr')→Wc fn.ntmps (live σ') w' fr' a'.tmps→Zo σ' w'→Ev σ w σ' w' →
  Leaves P fn a'.tmps (VJ σ w R) [dfr g cap] u w':=by
  intro u u' hu hst g cap fr' σ' a' w' hD hfr hok v
  have hD2:=hD.2 w' hok
  rw [Array.toArray_toList] at hD2
  refine leaves_cons hu (inv g cap w' hD.1) (hD2.mono ?_)
  rintro e u2 w2 ⟨⟨x,hx⟩,hu2,σ2,hk,hs2,hv2⟩
  subst hx;subst hu2
  simp only [hst]
  obtain ⟨y,hy1,hy2⟩:=endK fr' σ2 a' w2 hk (hfr.ev hv2) hs2 (v.trans hv2)
  exact ⟨y,hy1,hy2⟩
 refine h _ w ⟨rfl,⟨by simp;omega,fun i hi=>?_⟩,hσ⟩ _ (fun e ds' fr' σ' a' w' q c' v=>?_)
 ·unfold Fr.args
  by_cases hlt:i<args.length
  ·have e1:args.getD i (.val undef)=args[i]:=by simp [hlt]
   have e2:(vs++Array.replicate (fn.ntmps-vs.size) undef).getD i undef=vs.toList[i]'(by simp;omega):=by
    simp [Array.getD_eq_getD_getElem?,Array.getElem?_append,show i<vs.size from by omega]
   rw [e1,e2]
   exact hv.2 i _ _ (List.getElem?_eq_getElem hlt) (List.getElem?_eq_getElem _)
  ·have e1:args.getD i (.val undef)=.val undef:=by simp [List.getD_eq_getElem?_getD,List.getElem?_eq_none (show args.length≤i by omega)]
   have e2:(vs++Array.replicate (fn.ntmps-vs.size) undef).getD i undef=undef:=by
    simp [Array.getD_eq_getD_getElem?,Array.getElem?_append,show ¬ i<vs.size from by omega,Array.getElem?_replicate]
    split<;>rfl
   rw [e1,e2]
   exact .val _
 ·have hd:=c'.defers
  have one:∀ (u u':FrameMode),u≠.run→settle u'=.returning→∀ (D:Nat) (g:FuncId) (cap:Array Value),ds'=[QU D,dfr g cap]→σ'.get D=some (.raw (.deferred (some []))) →
   Vr P g cap.toList u u' (σ'.set D (.raw (.deferred none))) (XM P fn.results.toList R fr')→K6 P fn (VJ σ w R) u a' w':=by
   intro u u' hu hst D g cap he hD hA
   rw [he] at hd
   obtain ⟨t1,t2,t3⟩:=TO c'.ok hD (.deferred none)
   have hw:w'.heap[D]?=some (.deferred (some [])):=c'.ok.obj D _ (ZW hD)
   exact .inl ⟨D,_,_,hd,run_takeDeferred hw,goD u u' hu hst g cap fr' _ a' _ hA (c'.fr.ev t2) t1 (v.trans t2)⟩
  have none_:ds'=[]→XM P fn.results.toList R fr' σ'→K6 P fn (VJ σ w R) .returning a' w':=by
   intro he q
   rw [he] at hd
   refine .inr ?_
   rw [hd]
   obtain ⟨y,hy1,hy2⟩:=endK fr' σ' a' w' q c'.fr c'.ok v
   exact ⟨y,hy1,hy2⟩
  cases e with
  | normal =>
    rcases q with ⟨he,q⟩ | ⟨D,g,cap,he,hD,q⟩
    ·exact none_ he q
    ·exact one _ _ (by simp) rfl D g cap he hD q
  | ret =>
    rcases q with ⟨he,q⟩ | ⟨D,g,cap,he,hD,q⟩
    ·exact none_ he q
    ·exact one _ _ (by simp) rfl D g cap he hD q
  | panic ch =>
    obtain ⟨D,g,cap,pv,he,hD,rfl,q⟩:=q
    exact one _ _ (by simp) rfl D g cap he hD q
  | exit i=>exact q.elim
  | goto l=>exact q.elim
  | outgrown=>exact q.elim
def bx (y:Oper)(g:FuncId)(l:List Nat):Bool:=match y.op,y.guard with
 | .call { callee:=.value (.func f),args:=⟨a⟩,.. },none=>f == g&&a.map (fun | .tmp t=>some t | _=>none) == l.map some
 | _,_=>false
def Ext (P:Program)(g:FuncId)(args:List AV)(σ:Store)(av:AV):Prop :=
 ∀ (w:World) (vs:Array Value),Zo σ w→Vs (live σ) w args vs.toList→∃ v,(callFunc g vs).run P w=.ok (.value v) w∧V (live σ) w av v
theorem AWp.ext {P:Program}{n:Nat}{ds:List Deferred}{mu:List Nat}{id:Nat}{pre post:List Oper}{y:Oper}{Q:Exit→Fr→Store→Prop}{fr:Fr}{σ:Store}(g:FuncId)(l:List Nat)
 (hchk:((pre++y::post).all (opB n)&&bx y g l)=true)
 (h:Y7 P mu ⟨pre++y::post⟩ pre (fun e fr σ=>e=.normal∧∃ av,Ext P g (l.map fr) σ av∧Y7 P mu ⟨pre++y::post⟩ post Q (fr.putO y.dst av) σ) fr σ):AWp P n ds (.region id ⟨pre++y::post⟩ false) Q fr σ:=by
 simp only [Bool.and_eq_true] at hchk
 obtain ⟨hB,hy⟩:=hchk
 have hBl:=List.all_eq_true.1 hB
 intro a w hc Q' hq
 refine wp_region_list (RL (YZ hB) pre (fun o ho=>hBl o (List.mem_append_left _ ho)) fr σ a w h hc (Ev.refl _ _) (fun fr1 σ1 a1 w1 q c v=>?_) (fun e fr' σ' a' w' hne q c v=>absurd q.1 hne))
 obtain ⟨_,av,hx,hp⟩:=q
 unfold bx at hy
 split at hy
 ·rename_i f args ts hop hg
  simp only [Bool.and_eq_true,beq_iff_eq] at hy
  obtain ⟨rfl,hl⟩:=hy
  have hBy:=hBl y (by simp)
  have hargs:args=l.map Operand.tmp:=by
   apply List.ext_getElem?
   intro i
   have:=congrArg (fun z=>z[i]?) hl
   simp only [List.getElem?_map] at this ⊢
   cases h1:args[i]? with
   | none=>rw [h1] at this;cases h2:l[i]? with
     | none=>rfl
     | some t=>rw [h2] at this;simp at this
   | some x=>rw [h1] at this;cases h2:l[i]? with
     | none=>rw [h2] at this;simp at this
     | some t=>rw [h2] at this;cases x<;>simp at this;subst this;rfl
  have hin:∀ t∈l,t<n:=by
   intro t ht
   have:=Wj hBy (.tmp t) (by rw [hop];simp [Op.operands,Call.operands,hargs,ht])
   simpa [de] using this
  obtain ⟨v1,hr,hv⟩:=hx w1 (args.toArray.map a1.eval) c.ok (by
   refine ⟨by simp [hargs],fun i b u hb hu=>?_⟩
   simp only [List.getElem?_map,Option.map_eq_some_iff] at hb
   obtain ⟨t,ht,rfl⟩:=hb
   have:(l.map fun t=>a1.tmps.getD t undef)[i]?=some u:=by simpa [hargs,Act.eval] using hu
   rw [List.getElem?_map,ht] at this
   simp only [Option.map_some,Option.some.injEq] at this
   rw [← this]
   exact c.fr.slot t (hin t (List.mem_of_getElem? ht)))
  have hrun:(execOp a1.eval y).run P w1=.ok (.value v1) w1:=by
   unfold execOp
   rw [hop]
   have he:a1.eval (.func f)=.func (.func f) #[] #[]:=rfl
   simp only [Sem.run_bind,resolve,he,Deferred.ofValue,Sem.run_pure,Result.andThen_ok,invoke]
   simpa using hr
  refine wpList_step fun K hK=>?_
  rw [if_pos (by simp [Region.wanted,hg])]
  unfold Oper.wp
  rw [hrun,Oper.upon_value]
  exact hK _ _ (W2 (ds:=ds) (YZ hB) post (fun o ho=>hBl o (by simp [ho])) _ σ1 _ w1 hp ⟨by rw [ZI];exact c.defers,c.fr.put (Xk hBy) hv,c.ok⟩ (fun e fr' σ' a' w' q c2 v2=>hq e fr' σ' a' w' q c2 (v.trans v2)))
 ·cases hy
end Go.Vx
end
