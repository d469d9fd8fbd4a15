/- Part Q12 of the proof of treeLooksProved: the walk of the program on abstract values, and the plain law. -/
import Derived.Test.YtmedmnondjmleaaGreatQ11
import Derived.Recover
set_option linter.unusedVariables false
set_option linter.unusedSimpArgs false
section
namespace Go.Vx
open Go.RowKit
theorem Zt {σ:Store}{b b':Nat}{x:AObj}(h:Zx σ b)(k:σ.get b'=some x):b≠b':=fun e=>by rw [e] at h;rw [Zm h] at k;cases k
theorem Zd {σ:Store}{b:Nat}{x y:AObj}(k:σ.get b=some x):(σ.set b y).get b=some y:=by
 induction σ with
 | nil=>cases k
 | cons p r ih =>
   obtain ⟨b',z⟩:=p
   simp only [Store.get,Store.set] at k ⊢
   by_cases e:b'=b
   ·rw [if_pos e];simp [Store.get,e]
   ·rw [if_neg e] at k ⊢;simp only [Store.get];rw [if_neg e];exact ih k
theorem Zb {σ:Store}{b c:Nat}{y:AObj}(h:c≠b):(σ.set b y).get c=σ.get c:=by
 induction σ with
 | nil=>rfl
 | cons p r ih =>
   obtain ⟨b',z⟩:=p
   simp only [Store.get,Store.set]
   by_cases e:b'=b
   ·rw [if_pos e];simp only [Store.get];rw [if_neg (by rw [e];exact Ne.symm h),if_neg (by rw [e];exact Ne.symm h)]
   ·rw [if_neg e];simp only [Store.get];rw [ih]
theorem QD (σ:Store)(b c:Nat)(y:AObj):(σ.set b y).get c=if c=b then (σ.get b).map (fun _=>y) else σ.get c:=by
 by_cases e:c=b
 ·subst e
  rw [if_pos rfl]
  cases h:σ.get c with
  | some x=>rw [Zd h];rfl
  | none =>
    simp only [Option.map_none]
    induction σ with
    | nil=>rfl
    | cons p r ih =>
      obtain ⟨b',z⟩:=p
      simp only [Store.get] at h
      by_cases e:b'=c
      ·rw [if_pos e] at h;cases h
      ·rw [if_neg e] at h;simp only [Store.set];rw [if_neg e];simp only [Store.get];rw [if_neg e];exact ih h
 ·rw [if_neg e,Zb e]
theorem Zw {σ:Store}{b:Nat}{y z:AObj}:(σ.set b y).set b z=σ.set b z:=by
 induction σ with
 | nil=>rfl
 | cons p r ih =>
   obtain ⟨b',w⟩:=p
   simp only [Store.set]
   by_cases e:b'=b
   ·rw [if_pos e];simp [Store.set,e]
   ·rw [if_neg e,if_neg e];simp only [Store.set];rw [if_neg e,ih]
theorem Yy {σ:Store}{b:Nat}{y:AObj}(k:σ.get b=some y):σ.set b y=σ:=by
 induction σ with
 | nil=>rfl
 | cons p r ih =>
   obtain ⟨b',z⟩:=p
   simp only [Store.get,Store.set] at k ⊢
   by_cases e:b'=b
   ·rw [if_pos e] at k ⊢;injection k with k;rw [k]
   ·rw [if_neg e] at k ⊢;rw [ih k]
theorem XF {σ:Store}{b c:Nat}{y:AObj}:Zx (σ.set b y) c=Zx σ c:=by
 induction σ with
 | nil=>rfl
 | cons p r ih =>
   obtain ⟨b',z⟩:=p
   simp only [Store.set]
   by_cases e:b'=b
   ·rw [if_pos e];rfl
   ·rw [if_neg e];simp only [Zx];rw [ih]
attribute [go_sem] QD Zw
def Vr (P:Program)(g:FuncId)(cap:List Value)(u:FrameMode)(u':FrameMode)(σ:Store)(K:Store→Prop):Prop :=
 Xn P g=true∧∀ w,Zo σ w→CallsD P g cap.toArray u w fun e u2 w'=>(∃ v,e=.returned v)∧u2=u'∧∃ σ',K σ'∧Zo σ' w'∧Ev σ w σ' w'
inductive Rec:FrameMode→Value→FrameMode→Prop where
 | none:Rec .returning .nilIface .returning
 | some (pv:Value):Rec (.panicking [{ v:=pv,recovered:=false }]) pv (.panicking [{ v:=pv,recovered:=true }])
def IX (K:Store→Prop):Exit→Fr→Store→Prop
 | .normal,_,σ=>∃ σ',Sub σ' σ∧K σ'
 | .ret,_,σ=>∃ σ',Sub σ' σ∧K σ'
 | _,_,_=>False
theorem Mt (K:Store→Prop)(fr:Fr)(σ:Store):IX K .normal fr σ=∃ σ',Sub σ' σ∧K σ':=propext Iff.rfl
theorem FJ (K:Store→Prop)(fr:Fr)(σ:Store):IX K .ret fr σ=∃ σ',Sub σ' σ∧K σ':=propext Iff.rfl
attribute [go_sem] Mt FJ
def DP (o:Oper):Bool:=match o.op,o.guard with
 | .call { callee:=.builtin .recover,args:=⟨[]⟩,.. },none=>true
 | _,_=>false
theorem Jv {P:Program}{o:Oper}{a:Act}{w:World}(h:DP o=true):o.guard=none∧(execOp a.eval o).run P w=.ok .recover w:=by
 unfold DP at h
 split at h
 ·rename_i ts ho hg
  refine ⟨hg,?_⟩
  unfold execOp
  rw [ho]
  simp only [Sem.run_bind,resolve,Sem.run_pure,Result.andThen_ok,invoke]
  simp [builtin]
 ·cases h
theorem Lw {P:Program}{o:Oper}{a:Act}{next:Act→World→Prop}{Q:Exit→Act→World→Prop}{w:World}:¬ o.upon P a next Q (.ok .recover w):=by
 intro h;exact h
theorem Re {P:Program}{mu:List Nat}{ops:Array Oper}{n:Nat}{ds:List Deferred}(hn:∀ (j d:Nat),(ops[j]?).bind (·.dst)=some d→d<n){Q:Exit→Fr→Store→Prop}{cs:List Frame}{Q':Exit→Act→List Frame→World→Prop} :
 ∀ (l:List Oper) (k:Nat),(∀ j,l[j]?=ops[k+j]?)→(∀ o∈l,opB n o=true)→∀ (fr:Fr) (σ:Store) (a:Act) (w:World),Y7 P mu ops l Q fr σ→Y4 n ds σ fr a w →
   (∀ e fr' σ' a' w',Q e fr' σ'→Y4 n ds σ' fr' a' w'→Ev σ w σ' w'→Q' e a' cs w')→wpOpsS P ops Q' (List.range' k l.length) a cs w:=by
 intro l
 induction l with
 | nil=>intro k _ _ fr σ a w h hc hq;exact hq _ _ _ _ _ h hc (Ev.refl _ _)
 | cons o r ih =>
   intro k hl hB fr σ a w h hc hq
   have hBo:=hB o List.mem_cons_self
   have hdst:=Xk hBo
   have h0:ops[k]?=some o:=by simpa using (hl 0).symm
   have hl':∀ j,r[j]?=ops[k+1+j]?:=fun j=>by have:=hl (j+1);simpa [Nat.add_assoc,Nat.add_comm 1 j] using this
   simp only [Y7] at h
   simp only [List.length_cons,List.range'_succ,wpOpsS,h0]
   rcases Wb h hc.fr hn with ⟨hw,fr',hf',hA⟩ | ⟨hw,fr',hf',hA⟩
   ·rw [if_pos hw]
    have hs:=Xi hA a w hc.ok (fun x hx=>hf'.operand (Wj hBo x hx)) (fun a' w'=>wpOpsS P ops Q' (List.range' (k+1) r.length) a' cs w') (fun e a' w'=>Q' e a' cs w') (fun av σ' v w' hk hv hs he=>?_) (fun pv σ' w' hk hs he=>?_)
    ·unfold Oper.wp at hs
     generalize (execOp a.eval o).run P w=rr at hs
     split
     ·exact absurd hs Lw
     ·exact hs
    ·refine ih (k+1) hl' (fun o ho=>hB o (List.mem_cons_of_mem _ ho)) (fr'.putO o.dst av) σ' _ w' hk ⟨?_,(hf'.ev he).put hdst hv,hs⟩ (fun e fr2 σ2 a2 w2 q c v=>hq e fr2 σ2 a2 w2 q c (he.trans v))
     rw [← hc.defers]
     cases o.dst<;>rfl
    ·exact hq _ _ _ _ _ hk ⟨hc.defers,hf'.ev he,hs⟩ he
   ·rw [if_neg (by rw [hw];exact Bool.false_ne_true)]
    refine ih (k+1) hl' (fun o ho=>hB o (List.mem_cons_of_mem _ ho)) _ σ _ w hA ⟨?_,hf'.put hdst (.val undef),hc.ok⟩ hq
    rw [← hc.defers]
    cases o.dst<;>rfl
theorem UX {P:Program}{g:FuncId}{fn:Func}{rest:Code}{id:Nat}{o:Oper}{r:List Oper}{cap:List Value}{u u':FrameMode}{rv:Value}{σ:Store}{K:Store→Prop}(mu:List Nat)(dr:List (Nat×Nat×Nat))(hR:Rec u rv u')
 (hf:P.funcs[g]?=some fn) (hb:fn.body=some (.seq (.region id ⟨o::r⟩ false) rest)) (d:Nat) (hres:fn.results=#[])
 (hchk:(P.follows .mixedOrders&&Vi fn.ntmps dr (.seq (.region id ⟨o::r⟩ false) rest)&&decide (cap.length≤fn.ntmps)&&Xn P g&&DP o&&decide (o.dst=some d))=true)
 (h:Y7 P mu ⟨o::r⟩ r (Ux (avc P fn.ntmps [] mu dr rest) (IX K)) ((Fr.args (cap.map .val)).put d (.val rv)) σ):Vr P g cap u u' σ K:=by
 simp only [Bool.and_eq_true,decide_eq_true_eq,Vi,In,Bool.false_or] at hchk
 obtain ⟨⟨⟨⟨⟨h0,h1,h1'⟩,h3⟩,h4⟩,h5⟩,h6⟩:=hchk
 refine ⟨h4,fun w hσ=>?_⟩
 refine callsD_of_wpS hf hb (fun c₀ cs hu=>?_)
 have hall:∀ o'∈o::r,opB fn.ntmps o'=true:=by
  have:=h1.1
  exact List.all_eq_true.1 this
 have hargs:Wc fn.ntmps (live σ) w (Fr.args (cap.map .val)) (cap.toArray++Array.replicate (fn.ntmps-cap.toArray.size) undef):=by
  refine ⟨by simp;omega,fun i hi=>?_⟩
  unfold Fr.args
  by_cases hlt:i<cap.length
  ·have e1:(cap.map AV.val).getD i (.val undef)=.val cap[i]:=by simp [hlt]
   have e2:(cap.toArray++Array.replicate (fn.ntmps-cap.toArray.size) undef).getD i undef=cap[i]:=by
    simp [Array.getD_eq_getD_getElem?,Array.getElem?_append,hlt]
   rw [e1,e2];exact .val _
  ·have e1:(cap.map AV.val).getD i (.val undef)=.val undef:=by simp [List.getD_eq_getElem?_getD,List.getElem?_eq_none (show cap.length≤i by omega)]
   have e2:(cap.toArray++Array.replicate (fn.ntmps-cap.toArray.size) undef).getD i undef=undef:=by
    simp [Array.getD_eq_getD_getElem?,Array.getElem?_append,hlt,Array.getElem?_replicate]
    split<;>rfl
   rw [e1,e2];exact .val _
 refine wpS_seq (wpS_region ?_)
 have hrange:List.range (Array.mk (o::r)).size=0::List.range' 1 r.length:=by
  simp [List.range_eq_range',List.range'_succ]
 rw [hrange]
 simp only [wpOpsS,List.getElem?_toArray,List.getElem?_cons_zero]
 obtain ⟨hg,hrun⟩:=Jv (P:=P) (o:=o) (a:={ tmps:=cap.toArray++Array.replicate (fn.ntmps-cap.toArray.size) undef,defers:=[] }) (w:=w) h5
 rw [if_pos (by simp [Region.wanted,hg]),hrun]
 simp only
 have go:∀ cs',cs'={ c₀ with mode:=u' }::cs→wpOpsS P ⟨o::r⟩ (Exit.thenS (rest.wpS P (bodyPostS P fn c₀ cs (fun e u2 w'=>(∃ v,e=.returned v)∧u2=u'∧∃ σ',K σ'∧Zo σ' w'∧Ev σ w σ' w'))) (bodyPostS P fn c₀ cs (fun e u2 w'=>(∃ v,e=.returned v)∧u2=u'∧∃ σ',K σ'∧Zo σ' w'∧Ev σ w σ' w'))) (List.range' 1 r.length)
  (({ tmps:=cap.toArray++Array.replicate (fn.ntmps-cap.toArray.size) undef,defers:=[] }:Act).put o.dst rv) cs' w:=by
  intro cs' hcs
  refine Re (ds:=[]) (YZ (List.all_eq_true.2 hall)) r 1 (fun j=>by simp [Nat.add_comm]) (fun o' ho'=>hall o' (List.mem_cons_of_mem _ ho')) _ σ _ w h ⟨?_,?_,hσ⟩ (fun e fr' σ' a' w' q c v=>?_)
  ·rw [ZI]
  ·rw [h6]
   exact hargs.put (a:={ tmps:=_,defers:=[] }) (d:=some d) (fun k hk=>Xk (hall o List.mem_cons_self) k (by rw [h6];exact hk)) (.val rv)
  ·have fin:∀ (e:Exit) (fr2:Fr) (σ2:Store) (a2:Act) (w2:World),IX K e fr2 σ2→Y4 fn.ntmps [] σ2 fr2 a2 w2→Ev σ w σ2 w2→bodyPostS P fn c₀ cs (fun e u2 w'=>(∃ v,e=.returned v)∧u2=u'∧∃ σ',K σ'∧Zo σ' w'∧Ev σ w σ' w') e a2 cs' w2:=by
    intro e fr2 σ2 a2 w2 q2 c2 v2
    have hrs:∃ v,(results fn a2.tmps).run P w2=.ok v w2:=by
     refine ⟨.tuple #[],?_⟩
     unfold results
     rw [hres]
     simp
    obtain ⟨v,hv⟩:=hrs
    cases e with
    | normal=>obtain ⟨σ3,s3,q3⟩:=q2;exact ⟨c2.defers,u',hcs,v,hv,⟨v,rfl⟩,rfl,σ3,q3,c2.ok.sub s3,v2.trans (s3.ev _)⟩
    | ret=>obtain ⟨σ3,s3,q3⟩:=q2;exact ⟨c2.defers,u',hcs,v,hv,⟨v,rfl⟩,rfl,σ3,q3,c2.ok.sub s3,v2.trans (s3.ev _)⟩
    | exit i=>exact q2.elim
    | goto l=>exact q2.elim
    | panic ch=>exact q2.elim
    | outgrown=>exact q2.elim
   cases e with
   | normal =>
     refine wpS_of_wp ?_
     exact ZD h0 rest h1' _ fr' σ' q a' w' c _ (fun e fr2 σ2 a2 w2 q2 c2 v2=>fin e fr2 σ2 a2 w2 q2 c2 (v.trans v2))
   | exit i=>exact fin (.exit i) fr' σ' a' w' q c v
   | goto l=>exact fin (.goto l) fr' σ' a' w' q c v
   | ret=>exact fin .ret fr' σ' a' w' q c v
   | panic ch=>exact fin (.panic ch) fr' σ' a' w' q c v
   | outgrown=>exact fin .outgrown fr' σ' a' w' q c v
 cases hR with
 | none =>
   have:recoverD (c₀::cs)=none:=by simp [recoverD,hu]
   rw [this]
   exact go _ (by rw [← hu])
 | some pv =>
   have:recoverD (c₀::cs)=some (rv,{ c₀ with mode:=.panicking [{ v:=rv,recovered:=true }] }::cs):=by simp [recoverD,hu]
   rw [this]
   exact go _ rfl
def DWp (P:Program)(n:Nat)(ds:List Deferred)(c:Code)(Q:Exit→List Deferred→Fr→Store→Prop)(fr:Fr)(σ:Store):Prop :=
 ∀ a w,Y4 n ds σ fr a w→∀ Q':Exit→Act→World→Prop,(∀ e ds' fr' σ' a' w',Q e ds' fr' σ'→Y4 n ds' σ' fr' a' w'→Ev σ w σ' w'→Q' e a' w')→c.wp P Q' a w
theorem DWp.of {P:Program}{n:Nat}{ds:List Deferred}{c:Code}{Q:Exit→List Deferred→Fr→Store→Prop}{fr:Fr}{σ:Store}(h:AWp P n ds c (fun e fr σ=>Q e ds fr σ) fr σ):DWp P n ds c Q fr σ :=
 fun a w hc Q' hq=>h a w hc Q' (fun e fr' σ' a' w' q c v=>hq e ds fr' σ' a' w' q c v)
def XL (P:Program)(n:Nat)(c:Code)(Q:Exit→List Deferred→Fr→Store→Prop):Exit→List Deferred→Fr→Store→Prop
 | .normal,ds,fr,σ=>DWp P n ds c Q fr σ
 | e,ds,fr,σ=>Q e ds fr σ
theorem DWp.seq {P:Program}{n:Nat}{ds:List Deferred}{x y:Code}{Q:Exit→List Deferred→Fr→Store→Prop}{fr:Fr}{σ:Store}(h:DWp P n ds x (XL P n y Q) fr σ):DWp P n ds (.seq x y) Q fr σ:=by
 intro a w hc Q' hq
 refine wp_seq (h a w hc _ (fun e ds' fr' σ' a' w' q c' v=>?_))
 cases e with
 | normal=>exact q a' w' c' Q' (fun e2 ds2 fr2 σ2 a2 w2 q2 c2 v2=>hq e2 ds2 fr2 σ2 a2 w2 q2 c2 (v.trans v2))
 | exit i=>exact hq _ _ _ _ _ _ q c' v
 | goto l=>exact hq _ _ _ _ _ _ q c' v
 | ret=>exact hq _ _ _ _ _ _ q c' v
 | panic ch=>exact hq _ _ _ _ _ _ q c' v
 | outgrown=>exact hq _ _ _ _ _ _ q c' v
def dfr (g:FuncId)(cap:Array Value):Deferred:={ target:=.fn (.func g) cap,args:=#[] }
theorem RL {P:Program}{mu:List Nat}{ops:Array Oper}{n:Nat}{ds:List Deferred}(hn:∀ (j d:Nat),(ops[j]?).bind (·.dst)=some d→d<n){Q:Exit→Fr→Store→Prop}{Q':Exit→Act→World→Prop}{post:List Oper}{σ0:Store}{w0:World} :
 ∀ (l:List Oper),(∀ o∈l,opB n o=true)→∀ (fr:Fr) (σ:Store) (a:Act) (w:World),Y7 P mu ops l Q fr σ→Y4 n ds σ fr a w→Ev σ0 w0 σ w →
   (∀ fr' σ' a' w',Q .normal fr' σ'→Y4 n ds σ' fr' a' w'→Ev σ0 w0 σ' w'→wpList P ops Q' post a' w') →
   (∀ e fr' σ' a' w',e≠.normal→Q e fr' σ'→Y4 n ds σ' fr' a' w'→Ev σ0 w0 σ' w'→Q' e a' w')→wpList P ops Q' (l++post) a w:=by
 intro l
 induction l with
 | nil=>intro _ fr σ a w h hc he hp hq;exact hp _ _ _ _ h hc he
 | cons o r ih =>
   intro hB fr σ a w h hc he hp hq
   have hBo:=hB o List.mem_cons_self
   have hdst:=Xk hBo
   simp only [Y7] at h
   refine wpList_step fun K hK=>?_
   rcases Wb h hc.fr hn with ⟨hw,fr',hf',hA⟩ | ⟨hw,fr',hf',hA⟩
   ·rw [if_pos hw]
    refine Xi hA a w hc.ok (fun x hx=>hf'.operand (Wj hBo x hx)) K Q' (fun av σ' v w' hk hv hs he'=>?_) (fun pv σ' w' hk hs he'=>?_)
    ·refine hK _ _ (ih (fun o ho=>hB o (List.mem_cons_of_mem _ ho)) (fr'.putO o.dst av) σ' _ w' hk ⟨?_,(hf'.ev he').put hdst hv,hs⟩ (he.trans he') hp hq)
     rw [← hc.defers]
     cases o.dst<;>rfl
    ·exact hq _ _ _ _ _ (by simp) hk ⟨hc.defers,hf'.ev he',hs⟩ (he.trans he')
   ·rw [if_neg (by rw [hw];exact Bool.false_ne_true)]
    refine hK _ _ (ih (fun o ho=>hB o (List.mem_cons_of_mem _ ho)) _ σ _ w hA ⟨?_,hf'.put hdst (.val undef),hc.ok⟩ he hp hq)
    rw [← hc.defers]
    cases o.dst<;>rfl
def Au (Q:Exit→List Deferred→Fr→Store→Prop)(ds:List Deferred)(k:Nat):Exit→Fr→Store→Prop
 | .normal,fr,σ=>∃ g cap,fr k=.val (.func (.func g) #[] cap)∧Q .normal (dfr g cap::ds) fr σ
 | e,fr,σ=>Q e ds fr σ
theorem Mv (Q:Exit→List Deferred→Fr→Store→Prop)(ds:List Deferred)(k:Nat)(fr:Fr)(σ:Store):Au Q ds k .normal fr σ=∃ g cap,fr k=.val (.func (.func g) #[] cap)∧Q .normal (dfr g cap::ds) fr σ:=propext Iff.rfl
theorem Ki (Q:Exit→List Deferred→Fr→Store→Prop)(ds:List Deferred)(k:Nat)(c:List PanicEntry)(fr:Fr)(σ:Store):Au Q ds k (.panic c) fr σ=Q (.panic c) ds fr σ:=propext Iff.rfl
attribute [go_sem ↓] Mv Ki
def bB (o:Oper)(k:Nat):Bool:=match o.op,o.guard,o.dst with
 | .defer { callee:=.value (.tmp j),args:=⟨[]⟩,.. },none,none=>j == k
 | _,_,_=>false
theorem DWp.region {P:Program}{n:Nat}{ds:List Deferred}{mu:List Nat}{id:Nat}{pre:List Oper}{o:Oper}{Q:Exit→List Deferred→Fr→Store→Prop}{fr:Fr}{σ:Store}(k:Nat)(hB:(pre++[o]).all (opB n)=true)(ho:bB o k=true)(hk:k<n)
 (h:Y7 P mu ⟨pre++[o]⟩ pre (Au Q ds k) fr σ):DWp P n ds (.region id ⟨pre++[o]⟩ false) Q fr σ:=by
 intro a w hc Q' hq
 have hBl:=List.all_eq_true.1 hB
 refine wp_region_list (RL (YZ hB) pre (fun o ho=>hBl o (List.mem_append_left _ ho)) fr σ a w h hc (Ev.refl _ _) (fun fr' σ' a' w' q c v=>?_) (fun e fr' σ' a' w' hne q c v=>?_))
 ·obtain ⟨g,cap,hfr,q⟩:=q
  unfold bB at ho
  split at ho
  ·rename_i j ts h1 h2 h3
   have hj:j=k:=by simpa using ho
   subst hj
   have hv:=c.fr.slot j hk
   rw [hfr] at hv
   have hev:a'.eval (.tmp j)=a'.tmps.getD j undef:=rfl
   generalize a'.tmps.getD j undef=u at hv hev
   cases hv
   refine wpList_step fun K hK=>?_
   rw [if_pos (by simp [Region.wanted,h2])]
   have hrun:(execOp a'.eval o).run P w'=.ok (.defer (dfr g cap)) w':=by
    unfold execOp
    rw [h1]
    simp only [Sem.run_bind,resolve,hev,Deferred.ofValue,Sem.run_pure,Result.andThen_ok,dfr]
    simp
   unfold Oper.wp
   rw [hrun,Oper.upon_defer,h3]
   refine hK _ _ (hq _ _ _ _ _ _ q ⟨?_,c.fr,c.ok⟩ v)
   show dfr g cap::a'.defers=_
   rw [c.defers]
  ·cases ho
 ·cases e with
  | normal=>exact absurd rfl hne
  | exit i=>exact hq _ _ _ _ _ _ q c v
  | goto l=>exact hq _ _ _ _ _ _ q c v
  | ret=>exact hq _ _ _ _ _ _ q c v
  | panic ch=>exact hq _ _ _ _ _ _ q c v
  | outgrown=>exact hq _ _ _ _ _ _ q c v
def XM (P:Program)(rs:List ResultVar)(R:ZO→Store→Prop)(fr:Fr):Store→Prop:=fun σ=>U5 P rs fr σ fun l=>Tw R (db l) σ
def Uy (P:Program)(rs:List ResultVar)(R:ZO→Store→Prop):Exit→List Deferred→Fr→Store→Prop
 | .normal,[],fr,σ | .ret,[],fr,σ=>XM P rs R fr σ
 | .normal,[d],fr,σ | .ret,[d],fr,σ=>∃ g cap,d=dfr g cap∧Vr P g cap.toList .returning .returning σ (XM P rs R fr)
 | .panic c,[],fr,σ=>∃ pv,c=[{ v:=pv,recovered:=false }]∧HX R pv σ
 | .panic c,[d],fr,σ=>∃ g cap pv,d=dfr g cap∧c=[{ v:=pv,recovered:=false }]∧Vr P g cap.toList (.panicking [{ v:=pv,recovered:=false }]) (.panicking [{ v:=pv,recovered:=true }]) σ (XM P rs R fr)
 | _,_,_,_=>False
theorem Su (P:Program)(rs:List ResultVar)(R:ZO→Store→Prop)(d:Deferred)(fr:Fr)(σ:Store):Uy P rs R .ret [d] fr σ=∃ g cap,d=dfr g cap∧Vr P g cap.toList .returning .returning σ (XM P rs R fr):=propext Iff.rfl
theorem Sv (P:Program)(rs:List ResultVar)(R:ZO→Store→Prop)(d:Deferred)(c:List PanicEntry)(fr:Fr)(σ:Store):Uy P rs R (.panic c) [d] fr σ=∃ g cap pv,d=dfr g cap∧c=[{ v:=pv,recovered:=false }]∧Vr P g cap.toList (.panicking [{ v:=pv,recovered:=false }]) (.panicking [{ v:=pv,recovered:=true }]) σ (XM P rs R fr):=propext Iff.rfl
theorem I2 (P:Program)(rs:List ResultVar)(R:ZO→Store→Prop)(fr:Fr)(σ:Store):Uy P rs R .ret [] fr σ=XM P rs R fr σ:=propext Iff.rfl
theorem IZ (P:Program)(rs:List ResultVar)(R:ZO→Store→Prop)(fr:Fr)(σ:Store):XM P rs R fr σ=U5 P rs fr σ fun l=>Tw R (db l) σ:=propext Iff.rfl
attribute [go_sem ↓] I2 IZ
theorem W3 {P:Program}{f:FuncId}{fn:Func}{c:Code}{args:List AV}{σ:Store}{R:ZO→Store→Prop}(hf:P.funcs[f]?=some fn)(hb:fn.body=some c)
 (hchk:(fn.results.toList.all (Ik fn.ntmps)&&decide (args.length≤fn.ntmps)&&Xn P f)=true) (h:DWp P fn.ntmps [] c (Uy P fn.results.toList R) (Fr.args args) σ):Zj P f args σ R:=by
 simp only [Bool.and_eq_true,decide_eq_true_eq] at hchk
 obtain ⟨⟨h2,h3⟩,h4⟩:=hchk
 refine ⟨h4,fun w vs hσ hv=>?_⟩
 have hsz:vs.size=args.length:=by have:=hv.1;simp at this;omega
 refine calls_of_wp_defers hf hb ?_
 have endK:∀ fr' σ' (a':Act) w',XM P fn.results.toList R fr' σ'→Wc fn.ntmps (live σ') w' fr' a'.tmps→Zo σ' w'→Ev σ w σ' w'→∃ v,(results fn a'.tmps).run P w'=.ok v w'∧VJ σ w R (.returned v) w':=by
  intro fr' σ' a' w' q hfr hok v
  obtain ⟨us,as,r1,r2,v',σ2,k1,k3⟩:=Tv hfr hok _ _ h2 q
  have hrun:(results fn a'.tmps).run P w'=.ok (if h:us.toArray.size=1 then us.toArray[0] else .tuple us.toArray) w':=by
   unfold results
   rw [Array.mapM_eq_mapM_toList]
   simp only [Sem.run_bind,Sem.run_map,Sem.run_pure]
   erw [r1]
   rfl
  have hval:V (live σ') w' (db as) (if h:us.toArray.size=1 then us.toArray[0] else .tuple us.toArray):=by
   match as,us,r2 with
   | [],[],_=>exact V.tup [] [] rfl (by simp)
   | [a],[u],r2=>exact r2.2 0 a u rfl rfl
   | a::b::r,x::y::t,r2 =>
     simp only [List.size_toArray,List.length_cons,show ¬ (t.length+1+1=1) from by omega,dite_false,db]
     exact V.tup _ _ r2.1 r2.2
  obtain ⟨j1,j2,j3⟩:=k1 w' _ hok hval
  exact iQ
 have inv:∀ (g:FuncId) (cap:Array Value) (w':World),Xn P g=true→(invoke (.fn (.func g) cap) #[]).run P w'=.ok (.enter g cap) w':=by
  intro g cap w' he
  simp only [invoke,Wq he]
  simp
 have goD:∀ (u u':FrameMode) (hu:u≠.run) (hst:settle u'=.returning) (g:FuncId) (cap:Array Value) (fr':Fr) (σ':Store) (a':Act) (w':World),Vr P g cap.toList u u' σ' (XM P fn.results.toList R fr')→Wc fn.ntmps (live σ') w' fr' a'.tmps→Zo σ' w'→Ev σ w σ' w' →
  Leaves P fn a'.tmps (VJ σ w R) [dfr g cap] u w':=by
  intro u u' hu hst g cap fr' σ' a' w' hD hfr hok v
  have hD2:=hD.2 w' hok
  rw [Array.toArray_toList] at hD2
  refine leaves_cons hu (inv g cap w' hD.1) (hD2.mono ?_)
  rintro e u2 w2 ⟨⟨x,hx⟩,hu2,σ2,hk,hs2,hv2⟩
  subst hx;subst hu2
  simp only [hst]
  obtain ⟨y,hy1,hy2⟩:=endK fr' σ2 a' w2 hk (hfr.ev hv2) hs2 (v.trans hv2)
  exact ⟨y,hy1,hy2⟩
 refine h _ w ⟨rfl,⟨by simp;omega,fun i hi=>?_⟩,hσ⟩ _ (fun e ds' fr' σ' a' w' q c' v=>?_)
 ·unfold Fr.args
  by_cases hlt:i<args.length
  ·have e1:args.getD i (.val undef)=args[i]:=by simp [hlt]
   have e2:(vs++Array.replicate (fn.ntmps-vs.size) undef).getD i undef=vs.toList[i]'(by simp;omega):=by
    simp [Array.getD_eq_getD_getElem?,Array.getElem?_append,show i<vs.size from by omega]
   rw [e1,e2]
   exact hv.2 i _ _ (List.getElem?_eq_getElem hlt) (List.getElem?_eq_getElem _)
  ·have e1:args.getD i (.val undef)=.val undef:=by simp [List.getD_eq_getElem?_getD,List.getElem?_eq_none (show args.length≤i by omega)]
   have e2:(vs++Array.replicate (fn.ntmps-vs.size) undef).getD i undef=undef:=by
    simp [Array.getD_eq_getD_getElem?,Array.getElem?_append,show ¬ i<vs.size from by omega,Array.getElem?_replicate]
    split<;>rfl
   rw [e1,e2]
   exact .val _
 ·have hd:=c'.defers
  have nd:∀ (e:Exit),(e=.normal∨e=.ret)→Uy P fn.results.toList R e ds' fr' σ'→Leaves P fn a'.tmps (VJ σ w R) a'.defers .returning w':=by
   intro e he q
   rw [hd]
   match ds',q with
   | [],q =>
     have q':XM P fn.results.toList R fr' σ':=by rcases he with rfl | rfl<;>exact q
     obtain ⟨y,hy1,hy2⟩:=endK fr' σ' a' w' q' c'.fr c'.ok v
     exact ⟨y,hy1,hy2⟩
   | [d],q =>
     have q':∃ g cap,d=dfr g cap∧Vr P g cap.toList .returning .returning σ' (XM P fn.results.toList R fr'):=by rcases he with rfl | rfl<;>exact q
     obtain ⟨g,cap,rfl,hD⟩:=q'
     exact goD _ _ (by simp) rfl g cap fr' σ' a' w' hD c'.fr c'.ok v
   | _::_::_,q=>rcases he with rfl | rfl<;>exact q.elim
  cases e with
  | normal=>exact nd _ (.inl rfl) q
  | ret=>exact nd _ (.inr rfl) q
  | panic ch =>
    show Leaves P fn a'.tmps (VJ σ w R) a'.defers (.panicking ch) w'
    rw [hd]
    match ds',q with
    | [],q =>
      obtain ⟨pv,rfl,σ2,k1,k2⟩:=q
      exact ⟨pv,σ2,rfl,k2,c'.ok.sub k1,v.trans (k1.ev w')⟩
    | [d],q =>
      obtain ⟨g,cap,pv,rfl,rfl,hD⟩:=q
      exact goD _ _ (by simp) rfl g cap fr' σ' a' w' hD c'.fr c'.ok v
  | exit i=>cases ds'<;>exact q.elim
  | goto l=>cases ds'<;>exact q.elim
  | outgrown=>cases ds'<;>exact q.elim
end Go.Vx
end
section
namespace Go.Vx
open Go.RowKit
def Fr.turn (ch:List Nat)(l:List (Nat×AV))(fr:Fr):Fr:=fun i=>match l with
 | []=>if ch.contains i then .any else fr i
 | (j,v)::r=>if i=j then v else Fr.turn ch r fr i
theorem RM (ch:List Nat)(fr:Fr)(i:Nat):Fr.turn ch [] fr i=if ch.contains i then .any else fr i:=rfl
theorem Sh (ch:List Nat)(j:Nat)(v:AV)(l:List (Nat×AV))(fr:Fr)(i:Nat):Fr.turn ch ((j,v)::l) fr i=if i=j then v else Fr.turn ch l fr i:=rfl
def Zf (ch:List Nat)(fr fr':Fr):Prop:=∀ i,ch.contains i=false→fr' i=fr i
theorem Zf.refl (ch:List Nat)(fr:Fr):Zf ch fr fr:=fun _ _=>rfl
theorem Zf.put {ch:List Nat}{fr fr':Fr}{a:Nat}{v:AV}(h:ch.contains a=true)(k:Zf ch fr fr'):Zf ch fr (fr'.put a v):=by
 intro i hi
 simp only [Fr.put]
 rw [if_neg (fun e=>by rw [e,h] at hi;cases hi)]
 exact k i hi
def JF (ch:List Nat):List (Nat×AV)→Bool
 | []=>true
 | (j,_)::r=>ch.contains j&&JF ch r
theorem Zf.turn {ch:List Nat}{fr:Fr}:∀ (l:List (Nat×AV)),JF ch l=true→Zf ch fr (Fr.turn ch l fr):=by
 intro l
 induction l with
 | nil=>intro _ i hi;simp only [RM,hi];rfl
 | cons p r ih =>
   obtain ⟨j,v⟩:=p
   intro h i hi
   simp only [JF,Bool.and_eq_true] at h
   rw [Sh,if_neg (fun e=>by rw [e,h.1] at hi;cases hi)]
   exact ih h.2 i hi
theorem cL {ch ch2:List Nat}{fr fr':Fr}(l:List (Nat×AV))(h:ch2.all (fun i=>ch.contains i)=true)(hk:JF ch2 l=true)(k:Zf ch fr fr'):Zf ch fr (Fr.turn ch2 l fr'):=by
 intro i hi
 have h2:ch2.contains i=false:=by
  cases hc:ch2.contains i with
  | false=>rfl
  | true =>
    rw [List.contains_iff_mem] at hc
    have:=List.all_eq_true.1 h i hc
    rw [this] at hi;cases hi
 rw [Zf.turn l hk i h2]
 exact k i hi
def K7:List (Nat×AV)→Fr→Prop
 | [],_=>True
 | (j,v)::r,fr=>Wk (fr j) v∧K7 r fr
theorem Sf.of_turn {ch:List Nat}{fr fr':Fr}(h2:Zf ch fr fr'):∀ (l:List (Nat×AV)),K7 l fr'→Sf fr' (Fr.turn ch l fr):=by
 intro l
 induction l with
 | nil =>
   intro _ i
   rw [RM]
   by_cases hi:ch.contains i=true
   ·rw [if_pos hi];exact Wk.any _
   ·rw [if_neg hi,h2 i (by simpa using hi)];exact Wk.refl _
 | cons p r ih =>
   obtain ⟨j,v⟩:=p
   intro h i
   rw [Sh]
   by_cases e:i=j
   ·rw [if_pos e,e];exact h.1
   ·rw [if_neg e];exact ih h.2 i
def WC (fr:Fr)(σ:Store)(fr':Fr)(σ':Store):Prop:=∀ (n:Nat) (w:World) (tmps:Array Value),Zo σ w→Wc n (live σ) w fr tmps→Zo σ' w∧Wc n (live σ') w fr' tmps∧Ev σ w σ' w
theorem WC.refl (fr:Fr)(σ:Store):WC fr σ fr σ:=fun _ w _ h k=>⟨h,k,Ev.refl σ w⟩
theorem WC.conf {fr fr':Fr}{σ σ':Store}(h:WC fr σ fr' σ'){n:Nat}{ds:List Deferred}{a:Act}{w:World}(c:Y4 n ds σ fr a w):Y4 n ds σ' fr' a w∧Ev σ w σ' w:=by
 obtain ⟨a1,a2,a3⟩:=h n w a.tmps c.ok c.fr
 exact ⟨⟨c.defers,a2,a1⟩,a3⟩
def Nx {α:Type}(ch:List Nat)(l:α→List (Nat×AV))(S:α→Store)(I:α→Prop)(μ:α→Nat)(x:α)(fr0:Fr):Exit→Fr→Store→Prop :=
 fun _ fr σ=>∃ y,I y∧μ y<μ x∧∃ fr2 σ2,WC fr σ fr2 σ2∧K7 (l y) fr2∧Zf ch fr0 fr2∧Sub (S y) σ2
theorem Nx.mk {α:Type}{ch:List Nat}{l:α→List (Nat×AV)}{S:α→Store}{I:α→Prop}{μ:α→Nat}{x:α}{fr0 fr:Fr}{e:Exit}{σ:Store}(y:α)(h1:I y)(h2:μ y<μ x)(h3:K7 (l y) fr)(h4:Zf ch fr0 fr)(h5:Sub (S y) σ):Nx ch l S I μ x fr0 e fr σ:=⟨y,h1,h2,fr,σ,.refl _ _,h3,h4,h5⟩
theorem Nx.mkS {α:Type}{ch:List Nat}{l:α→List (Nat×AV)}{S:α→Store}{I:α→Prop}{μ:α→Nat}{x:α}{fr0 fr:Fr}{e:Exit}{σ:Store}(y:α)(fr2:Fr)(σ2:Store)(hs:WC fr σ fr2 σ2)(h1:I y)(h2:μ y<μ x)(h3:K7 (l y) fr2)(h4:Zf ch fr0 fr2)(h5:Sub (S y) σ2):Nx ch l S I μ x fr0 e fr σ:=⟨y,h1,h2,fr2,σ2,hs,h3,h4,h5⟩
def Od (N:Exit→Fr→Store→Prop)(Q:Exit→Fr→Store→Prop):Exit→Fr→Store→Prop
 | .normal,fr,σ=>N .normal fr σ
 | e,fr,σ=>Q e fr σ
theorem O8 (N Q:Exit→Fr→Store→Prop)(fr:Fr)(σ:Store):Od N Q .normal fr σ=N .normal fr σ:=propext Iff.rfl
theorem Kh (N Q:Exit→Fr→Store→Prop)(i:Nat)(fr:Fr)(σ:Store):Od N Q (.exit i) fr σ=Q (.exit i) fr σ:=propext Iff.rfl
theorem IY (N Q:Exit→Fr→Store→Prop)(fr:Fr)(σ:Store):Od N Q .ret fr σ=Q .ret fr σ:=propext Iff.rfl
theorem Mu (N Q:Exit→Fr→Store→Prop)(c:List PanicEntry)(fr:Fr)(σ:Store):Od N Q (.panic c) fr σ=Q (.panic c) fr σ:=propext Iff.rfl
attribute [go_sem ↓] O8 Kh IY Mu
attribute [go_sem] RM Sh
theorem Zv {P:Program}{n:Nat}{ds:List Deferred}{mu:List Nat}{dr:List (Nat×Nat×Nat)}{c:Code}{Q:Exit→Fr→Store→Prop}{fr:Fr}{σ:Store}{α:Type}(ch:List Nat)(l:α→List (Nat×AV))(S:α→Store)(I:α→Prop)(μ:α→Nat)(x:α)
 (hB:(P.follows .mixedOrders&&Vi n dr c)=true) (h1:I x) (h2:K7 (l x) fr) (h3:Sub (S x) σ)
 (hr:∀ x,I x→avc P n ds mu dr c (Od (Nx ch l S I μ x fr) Q) (Fr.turn ch (l x) fr) (S x)):AWp P n ds (.loop c) Q fr σ:=by
 simp only [Bool.and_eq_true] at hB
 intro a w hc Q' hq
 refine wp_loop_ghost (fun m a' w'=>∃ x,I x∧μ x=m∧Y4 n ds (S x) (Fr.turn ch (l x) fr) a' w'∧Ev σ w (S x) w') (μ x) ⟨x,h1,rfl,hc.wk (.of_turn (.refl _ _) _ h2) h3,h3.ev w⟩ ?_
 rintro m a1 w1 ⟨y,hy,rfl,hc1,hv1⟩
 refine ZD hB.1 c hB.2 _ _ _ (hr y hy) a1 w1 hc1 _ (fun e fr' σ' a' w' q c' v=>?_)
 cases e with
 | normal =>
   obtain ⟨z,hz,hlt,fr2,σ2,hsh,hf,hk,hs⟩:=q
   obtain ⟨c2,v2⟩:=hsh.conf c'
   exact iB
 | exit i=>exact hq _ _ _ _ _ q c' (hv1.trans v)
 | goto l=>exact hq _ _ _ _ _ q c' (hv1.trans v)
 | ret=>exact hq _ _ _ _ _ q c' (hv1.trans v)
 | panic ch=>exact hq _ _ _ _ _ q c' (hv1.trans v)
 | outgrown=>exact hq _ _ _ _ _ q c' (hv1.trans v)
def Wks:List AV→List AV→Prop
 | [],[]=>True
 | a::r,b::s=>Wk a b∧Wks r s
 | _,_=>False
theorem Wks.refl:∀ l,Wks l l
 | []=>trivial
 | a::r=>⟨Wk.refl a,Wks.refl r⟩
theorem Wks.len:∀ {l m:List AV},Wks l m→l.length=m.length
 | [],[],_=>rfl
 | _::_,_::_,h=>by simp [Wks.len h.2]
 | [],_::_,h=>h.elim
 | _::_,[],h=>h.elim
theorem Wks.get:∀ {l m:List AV},Wks l m→∀ (i:Nat) (a b:AV),l[i]?=some a→m[i]?=some b→Wk a b
 | x::r,y::s,h,0,a,b,ha,hb=>by simp at ha hb;rw [← ha,← hb];exact h.1
 | x::r,y::s,h,i+1,a,b,ha,hb=>Wks.get h.2 i a b (by simpa using ha) (by simpa using hb)
 | [],[],_,i,a,b,ha,_=>by simp at ha
 | [],_::_,h,_,_,_,_,_=>h.elim
 | _::_,[],h,_,_,_,_,_=>h.elim
theorem Zj.wk {P:Program}{f:FuncId}{args args':List AV}{σ:Store}{R:ZO→Store→Prop}(h:Zj P f args' σ R)(k:Wks args args'):Zj P f args σ R:=by
 refine ⟨h.1,fun w vs hσ hv=>h.2 w vs hσ ⟨by rw [← k.len];exact hv.1,fun i b v hb hvi=>?_⟩⟩
 have hi:i<args.length:=by rw [k.len];exact (List.getElem?_eq_some_iff.1 hb).1
 exact k.get i _ b (List.getElem?_eq_getElem hi) hb _ _ _ (hv.2 i _ v (List.getElem?_eq_getElem hi) hvi)
theorem Zj.sub {P:Program}{f:FuncId}{args:List AV}{σ σ1:Store}{R:ZO→Store→Prop}(h:Zj P f args σ1 R)(k:Sub σ1 σ):Zj P f args σ R:=by
 refine ⟨h.1,fun w vs hσ hv=>(h.2 w vs (hσ.sub k) ⟨hv.1,fun i a v ha hvi=>(hv.2 i a v ha hvi).ev (k.ev w)⟩).mono fun e w' he=>?_⟩
 cases e with
 | returned v=>obtain ⟨av,σ',a,b,c,d⟩:=he;exact ⟨av,σ',a,b,c,(k.ev w).trans d⟩
 | panicked c=>obtain ⟨pv,σ',e,a,b,d⟩:=he;exact ⟨pv,σ',e,a,b,(k.ev w).trans d⟩
 | outgrown=>exact he
def Ok (a:AV):Prop:=∃ L w v,V L w a v
theorem Ok.agg {cs:List AV}(h:Ok (.agg cs)){c:AV}(hc:c∈cs):Ok c:=by
 obtain ⟨L,w,v,h⟩:=h
 cases h with
 | agg _ vs hl h =>
   obtain ⟨i,hi,he⟩:=List.getElem_of_mem hc
   exact ⟨L,w,_,h i c _ (by rw [← he];exact List.getElem?_eq_getElem hi) (List.getElem?_eq_getElem (by omega))⟩
theorem Ok.len {r:Rt}{s:Nat}{es:List (List AV)}(h:Ok (.list r s es)):es.length≤137438953472:=by
 obtain ⟨L,w,v,h⟩:=h
 cases h with
 | list _ _ _ cap a b o rd hcap hlim=>exact hlim
theorem Ok.mem {r:Rt}{s:Nat}{es:List (List AV)}(h:Ok (.list r s es)){e:List AV}(he:e∈es):Ok (.agg e):=by
 obtain ⟨L,w,v,h⟩:=h
 cases h with
 | list _ _ _ cap a b o rd hcap hlim hsz ha hr h1 h2 =>
   obtain ⟨i,hi,hx⟩:=List.getElem_of_mem he
   have hi':es[i]?=some e:=by rw [← hx];exact List.getElem?_eq_getElem hi
   refine ⟨L,w,_,V.agg e ((List.range e.length).map fun j=>rd (i * s+j)) (by simp) (fun j c v hj hv=>?_)⟩
   have hjl:=(List.getElem?_eq_some_iff.1 hj).1
   rw [List.getElem?_map,List.getElem?_range hjl] at hv
   simp only [Option.map_some,Option.some.injEq] at hv
   rw [← hv]
   exact h2 i e j c hi' hj
theorem Zj.ok {P:Program}{f:FuncId}{args:List AV}{σ:Store}{R:ZO→Store→Prop}(he:Xn P f=true)(h:(∀ a∈args,Ok a)→Zj P f args σ R):Zj P f args σ R:=by
 refine ⟨he,fun w vs hσ hv=>(h (fun a ha=>?_)).2 w vs hσ hv⟩
 obtain ⟨i,hi,hx⟩:=List.getElem_of_mem ha
 have hl:=hv.1
 exact ⟨live σ,w,_,hv.2 i a _ (by rw [← hx];exact List.getElem?_eq_getElem hi) (List.getElem?_eq_getElem (by omega))⟩
theorem Zp {x:Int}(h1:-9223372036854775808≤x)(h2:x≤9223372036854775807):IntKind.i64.wrap x=x:=by
 rw [IntKind.wrap_i64];omega
end Go.Vx
end
