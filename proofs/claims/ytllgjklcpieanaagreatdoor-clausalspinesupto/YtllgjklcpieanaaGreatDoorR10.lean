/- A part of the proof of clausalSpinesProved. -/
import Derived.Test.YtllgjklcpieanaaGreatDoorR09
import Derived.Recover
set_option linter.unusedVariables false
set_option linter.unusedSimpArgs false
section
namespace Go.Vx
open Go.RowKit
theorem ZI{σ:Store}{b b':Nat}{x:AObj}(h:Zm σ b)(k:σ.get b'=some x):b≠b':=fun e=>by rw[e] at h;rw[Zj h] at k;cases k
theorem Zd{σ:Store}{b:Nat}{x y:AObj}(k:σ.get b=some x):(σ.set b y).get b=some y:=by
 induction σ with
 | nil=>cases k
 | cons p r ih =>
   obtain⟨b',z⟩:=p
   simp only[Store.get,Store.set] at k ⊢
   by_cases e:b'=b
   ·rw[gZ e];simp[Store.get,e]
   ·rw[ig e] at k ⊢;simp only[Store.get];rw[ig e];exact ih k
theorem Za{σ:Store}{b c:Nat}{y:AObj}(h:c≠b):(σ.set b y).get c=σ.get c:=by
 induction σ with
 | nil=>rfl
 | cons p r ih =>
   obtain⟨b',z⟩:=p
   simp only[Store.get,Store.set]
   by_cases e:b'=b
   ·rw[gZ e];simp only[Store.get];rw[ig (by rw[e];exact iC h),ig (by rw[e];exact iC h)]
   ·rw[ig e];simp only[Store.get];rw[ih]
theorem TT(σ:Store)(b c:Nat)(y:AObj):(σ.set b y).get c=if c=b then(σ.get b).map (fun _=>y) else σ.get c:=by
 by_cases e:c=b
 ·subst e
  rw[gZ rfl]
  cases h:σ.get c with
  | some x=>rw[Zd h];rfl
  | none =>
    simp only[mI]
    induction σ with
    | nil=>rfl
    | cons p r ih =>
      obtain⟨b',z⟩:=p
      simp only[Store.get] at h
      by_cases e:b'=c
      ·rw[gZ e] at h;cases h
      ·rw[ig e] at h;simp only[Store.set];rw[ig e];simp only[Store.get];rw[ig e];exact ih h
 ·rw[ig e,Za e]
theorem Zx{σ:Store}{b:Nat}{y z:AObj}:(σ.set b y).set b z=σ.set b z:=by
 induction σ with
 | nil=>rfl
 | cons p r ih =>
   obtain⟨b',w⟩:=p
   simp only[Store.set]
   by_cases e:b'=b
   ·rw[gZ e];simp[Store.set,e]
   ·rw[ig e,ig e];simp only[Store.set];rw[ig e,ih]
theorem V1{σ:Store}{b:Nat}{y:AObj}(k:σ.get b=some y):σ.set b y=σ:=by
 exact qj
theorem WZ{σ:Store}{b c:Nat}{y:AObj}:Zm (σ.set b y) c=Zm σ c:=by
 induction σ with
 | nil=>rfl
 | cons p r ih =>
   obtain⟨b',z⟩:=p
   simp only[Store.set]
   by_cases e:b'=b
   ·rw[gZ e];rfl
   ·rw[ig e];simp only[Zm];rw[ih]
attribute [go_sem] TT Zx
def Vl(P:nE)(g:nL)(cap:List nG)(u:FrameMode)(u':FrameMode)(σ:Store)(K:Store->Prop):Prop :=
 YV P g=true/\∀ w,Zq σ w->CallsD P g cap.toArray u w fun e u2 w'=>(∃ v,e=.returned v)/\u2=u'/\∃ σ',K σ'/\Zq σ' w'/\Ev σ w σ' w'
inductive Rec:FrameMode->Value->FrameMode->Prop where
 | none:Rec .returning .nilIface .returning
 | some (pv:nG):Rec (.panicking [{ v:=pv,recovered:=false }]) pv (.panicking [{ v:=pv,recovered:=true }])
def HC(K:Store->Prop):Exit->Fr->Store->Prop
 | .normal,_,σ=>∃ σ',Sub σ' σ/\K σ'
 | .ret,_,σ=>∃ σ',Sub σ' σ/\K σ'
 | _,_,_=>False
theorem MX(K:Store->Prop)(fr:Fr)(σ:Store):HC K .normal fr σ=∃ σ',Sub σ' σ/\K σ':=propext mG
attribute [go_sem] MX
def Cj(o:nI):Bool:=match o.op,o.guard with
 | .call { callee:=.builtin .recover,args:=⟨[]⟩,.. },none=>true
 | _,_=>false
theorem J7{P:nE}{o:nI}{a:Act}{w:nH}(h:Cj o=true):o.guard=none/\(execOp a.eval o).run P w=.ok .recover w:=by
 unfold Cj at h
 split at h
 ·rename_i ts ho hg
  refine⟨hg,?_⟩
  unfold execOp
  rw[ho]
  simp only[jZ,resolve,kf,kC,invoke]
  simp[builtin]
 ·cases h
def mvB(o:nI):Bool:=match o.op with
 | .assign _=>true
 | .move _=>true
 | _=>false
theorem Ay{P:nE}{o:nI}{a:Act}{w:nH}(h:mvB o=true):∃ v,(execOp a.eval o).run P w=.ok (.value v) w:=by
 unfold mvB at h
 split at h
 ·rename_i x hx;exact⟨a.eval x,by unfold execOp;rw[hx];rfl⟩
 ·rename_i x hx;exact⟨a.eval x,by unfold execOp;rw[hx];rfl⟩
 ·cases h
theorem RS{P:nE}{mu:List Nat}{ops:nN nI}{n:Nat}{ds:List nK}(hn:∀ (j d:Nat),(ops[j]?).bind (·.dst)=some d->d<n){Q:Exit->Fr->Store->Prop}{cs:List Frame}{Q':Exit->Act->List Frame->nH->Prop} :
 ∀ (l:List nI) (k:Nat),(∀ j,l[j]?=ops[k+j]?)->(∀ o∈l,opB n o=true/\mvB o=true)->∀ (fr:Fr) (σ:Store) (a:Act) (w:nH),XU P mu ops l Q fr σ->YL n ds σ fr a w ->
   (∀ e fr' σ' a' w',Q e fr' σ'->YL n ds σ' fr' a' w'->Ev σ w σ' w'->Q' e a' cs w')->wpOpsS P ops Q' (List.range' k l.length) a cs w:=by
 intro l
 induction l with
 | nil=>intro k _ _ fr σ a w h hc hq;exact hq _ _ _ _ _ h hc (Ev.refl _ _)
 | cons o r ih =>
   intro k hl hB fr σ a w h hc hq
   obtain⟨hBo,hmv⟩:=hB o ir
   have hdst:=Xh hBo
   have h0:ops[k]?=some o:=by simpa using(hl 0).symm
   have hl':∀ j,r[j]?=ops[k+1+j]?:=fun j=>by have:=hl (j+1);simpa[jV,Nat.add_comm 1 j] using this
   simp only[XU] at h
   simp only[ij,lV,wpOpsS,h0]
   rcases WU h hc.fr hn with⟨hw,fr',hf',hA⟩|⟨hw,fr',hf',hA⟩
   ·rw[gZ hw]
    have hs:=YW hA a w hc.ok (fun x hx=>hf'.operand (X7 hBo x hx)) (fun a' w'=>wpOpsS P ops Q' (List.range' (k+1) r.length) a' cs w') (fun e a' w'=>Q' e a' cs w') (fun av σ' v w' hk hv hs he=>?_) (fun pv σ' w' hk hs he=>?_)
    ·obtain⟨v,hv⟩:=Ay (P:=P) (a:=a) (w:=w) hmv
     have h2:=(hs none 0).2
     rw[Oper.semAt_none,hv] at h2
     rw[hv]
     exact h2
    ·refine ih (k+1) hl' (fun o ho=>hB o (kR _ ho)) (fr'.putO o.dst av) σ' _ w' hk ⟨?_,(hf'.ev he).put hdst hv,hs⟩ (fun e fr2 σ2 a2 w2 q c v=>hq e fr2 σ2 a2 w2 q c (he.trans v))
     exact qG
    ·exact hq _ _ _ _ _ hk ⟨hc.defers,hf'.ev he,hs⟩ he
   ·refine vJ ?_
    refine ih (k+1) hl' (fun o ho=>hB o (kR _ ho)) _ σ _ w hA ⟨?_,hf'.put hdst (.val undef),hc.ok⟩ hq
    exact qG
theorem Tj{P:nE}{g:nL}{fn:Func}{rest:Code}{id:Nat}{o:nI}{r:List nI}{cap:List nG}{u u':FrameMode}{rv:nG}{σ:Store}{K:Store->Prop}(mu:List Nat)(dr:List (Nat×Nat×Nat))(hR:Rec u rv u')
 (hf:P.funcs[g]?=some fn) (hb:fn.body=some (.seq (.region id ⟨o::r⟩ false) rest)) (d:Nat) (hres:fn.results=#[])
 (hchk:(P.follows .mixedOrders&&Vu fn.ntmps dr (.seq (.region id ⟨o::r⟩ false) rest)&&decide (cap.length<=fn.ntmps)&&YV P g&&Cj o&&decide (o.dst=some d)&&r.all mvB)=true)
 (h:XU P mu ⟨o::r⟩ r (V9 (avc P fn.ntmps [] mu dr rest) (HC K)) ((Fr.args (cap.map .val)).put d (.val rv)) σ):Vl P g cap u u' σ K:=by
 simp only[kJ,kD,Vu,I0,ja] at hchk
 obtain⟨⟨⟨⟨⟨⟨h0,h1,h1'⟩,h3⟩,h4⟩,h5⟩,h6⟩,h7⟩:=hchk
 refine⟨h4,fun w hσ=>?_⟩
 refine callsD_of_wpS hf hb (fun c₀ cs hu=>?_)
 have hall:∀ o'∈o::r,opB fn.ntmps o'=true:=by
  have:=h1.1
  exact List.all_eq_true.1 this
 have hargs:XM fn.ntmps (live σ) w (Fr.args (cap.map .val)) (cap.toArray++Array.replicate (fn.ntmps-cap.toArray.size) undef):=by
  exact oF
 refine wpS_seq (wpS_region ?_)
 have hrange:List.range (Array.mk (o::r)).size=0::List.range' 1 r.length:=by
  simp[lP,lV]
 rw[hrange]
 simp only[wpOpsS,mf,kU]
 obtain⟨hg,hrun⟩:=J7 (P:=P) (o:=o) (a:={ tmps:=cap.toArray++Array.replicate (fn.ntmps-cap.toArray.size) undef,defers:=[] }) (w:=w) h5
 rw[gZ yp,hrun]
 simp only
 have go:∀ cs',cs'={ c₀ with mode:=u' }::cs->wpOpsS P ⟨o::r⟩ (Exit.thenS (rest.wpS P (bodyPostS P fn c₀ cs (fun e u2 w'=>(∃ v,e=.returned v)/\u2=u'/\∃ σ',K σ'/\Zq σ' w'/\Ev σ w σ' w'))) (bodyPostS P fn c₀ cs (fun e u2 w'=>(∃ v,e=.returned v)/\u2=u'/\∃ σ',K σ'/\Zq σ' w'/\Ev σ w σ' w'))) (List.range' 1 r.length)
  (({ tmps:=cap.toArray++Array.replicate (fn.ntmps-cap.toArray.size) undef,defers:=[] }:Act).put o.dst rv) cs' w:=by
  intro cs' hcs
  refine RS (ds:=[]) (YR (List.all_eq_true.2 hall)) r 1 (fun j=>by simp[Nat.add_comm]) (fun o' ho'=>⟨hall o' (kR _ ho'),List.all_eq_true.1 h7 o' ho'⟩) _ σ _ w h ⟨?_,?_,hσ⟩ (fun e fr' σ' a' w' q c v=>?_)
  ·rw[ZJ]
  ·exact rY
  ·have fin:∀ (e:Exit) (fr2:Fr) (σ2:Store) (a2:Act) (w2:nH),HC K e fr2 σ2->YL fn.ntmps [] σ2 fr2 a2 w2->Ev σ w σ2 w2->bodyPostS P fn c₀ cs (fun e u2 w'=>(∃ v,e=.returned v)/\u2=u'/\∃ σ',K σ'/\Zq σ' w'/\Ev σ w σ' w') e a2 cs' w2:=by
    exact pe
   cases e with
   | normal =>
     refine wpS_of_wp ?_
     exact(mF (n:=0)).1 (Zn h0 rest h1' _ fr' σ' q a' w' c _ (fun e fr2 σ2 a2 w2 q2 c2 v2=>fin e fr2 σ2 a2 w2 q2 c2 (v.trans v2)) none 0)
   | exit i=>exact fin (.exit i) fr' σ' a' w' q c v
   | goto l=>exact fin (.goto l) fr' σ' a' w' q c v
   | ret=>exact fin .ret fr' σ' a' w' q c v
   | panic ch=>exact fin (.panic ch) fr' σ' a' w' q c v
   | outgrown=>exact fin .outgrown fr' σ' a' w' q c v
 exact pM
def DWp(P:nE)(n:Nat)(ds:List nK)(c:Code)(Q:Exit->List nK->Fr->Store->Prop)(fr:Fr)(σ:Store):Prop :=
 ∀ a w,YL n ds σ fr a w->∀ Q':Exit->Act->nH->Prop,(∀ e ds' fr' σ' a' w',Q e ds' fr' σ'->YL n ds' σ' fr' a' w'->Ev σ w σ' w'->Q' e a' w')->c.wp P Q' a w
theorem DWp.of{P:nE}{n:Nat}{ds:List nK}{c:Code}{Q:Exit->List nK->Fr->Store->Prop}{fr:Fr}{σ:Store}(h:AWp P n ds c (fun e fr σ=>Q e ds fr σ) fr σ):DWp P n ds c Q fr σ :=
 fun a w hc Q' hq=>(mF (n:=0)).1 (h a w hc Q' (fun e fr' σ' a' w' q c v=>hq e ds fr' σ' a' w' q c v) none 0)
def ZW(P:nE)(n:Nat)(c:Code)(Q:Exit->List nK->Fr->Store->Prop):Exit->List nK->Fr->Store->Prop
 | .normal,ds,fr,σ=>DWp P n ds c Q fr σ
 | e,ds,fr,σ=>Q e ds fr σ
theorem DWp.seq{P:nE}{n:Nat}{ds:List nK}{x y:Code}{Q:Exit->List nK->Fr->Store->Prop}{fr:Fr}{σ:Store}(h:DWp P n ds x (ZW P n y Q) fr σ):DWp P n ds (.seq x y) Q fr σ:=by
 intro a w hc Q' hq
 refine wp_seq (h a w hc _ (fun e ds' fr' σ' a' w' q c' v=>?_))
 cases e with
 | normal=>exact q a' w' c' Q' (fun e2 ds2 fr2 σ2 a2 w2 q2 c2 v2=>hq e2 ds2 fr2 σ2 a2 w2 q2 c2 (v.trans v2))
 | exit i=>exact hq _ _ _ _ _ _ q c' v
 | goto l=>exact hq _ _ _ _ _ _ q c' v
 | ret=>exact hq _ _ _ _ _ _ q c' v
 | panic ch=>exact hq _ _ _ _ _ _ q c' v
 | outgrown=>exact hq _ _ _ _ _ _ q c' v
def dfr(g:nL)(cap:nN nG):nK:={ target:=.fn (.func g) cap,args:=#[] }
theorem Qc{P:nE}{ro:nM Nat}{mm:Nat}{mu:List Nat}{ops:nN nI}{n:Nat}{ds:List nK}(hn:∀ (j d:Nat),(ops[j]?).bind (·.dst)=some d->d<n){Q:Exit->Fr->Store->Prop}{Q':Exit->Act->nH->Prop}{post:List nI}{σ0:Store}{w0:nH} :
 ∀ (l:List nI),(∀ o∈l,opB n o=true)->∀ (fr:Fr) (σ:Store) (a:Act) (w:nH),XU P mu ops l Q fr σ->YL n ds σ fr a w->Ev σ0 w0 σ w ->
   (∀ fr' σ' a' w',Q .normal fr' σ'->YL n ds σ' fr' a' w'->Ev σ0 w0 σ' w'->wpListIn (fen ro) mm P ops Q' post a' w') ->
   (∀ e fr' σ' a' w',e≠.normal->Q e fr' σ'->YL n ds σ' fr' a' w'->Ev σ0 w0 σ' w'->Q' e a' w')->wpListIn (fen ro) mm P ops Q' (l++post) a w:=by
 intro l
 induction l with
 | nil=>intro _ fr σ a w h hc he hp hq;exact hp _ _ _ _ h hc he
 | cons o r ih =>
   intro hB fr σ a w h hc he hp hq
   have hBo:=hB o ir
   have hdst:=Xh hBo
   simp only[XU] at h
   refine wpListIn_step fun K hK=>?_
   rcases WU h hc.fr hn with⟨hw,fr',hf',hA⟩|⟨hw,fr',hf',hA⟩
   ·rw[gZ hw]
    refine YW hA a w hc.ok (fun x hx=>hf'.operand (X7 hBo x hx)) K Q' (fun av σ' v w' hk hv hs he'=>?_) (fun pv σ' w' hk hs he'=>?_) ro mm
    ·refine hK _ _ (ih (fun o ho=>hB o (kR _ ho)) (fr'.putO o.dst av) σ' _ w' hk ⟨?_,(hf'.ev he').put hdst hv,hs⟩ (he.trans he') hp hq)
     exact qG
    ·exact hq _ _ _ _ _ xf hk ⟨hc.defers,hf'.ev he',hs⟩ (he.trans he')
   ·refine vJ ?_
    refine⟨fun _ _=>trivial,hK _ _ (ih (fun o ho=>hB o (kR _ ho)) _ σ _ w hA ⟨?_,hf'.put hdst (.val undef),hc.ok⟩ he hp hq)⟩
    exact qG
def bP(Q:Exit->List nK->Fr->Store->Prop)(ds:List nK)(k:Nat):Exit->Fr->Store->Prop
 | .normal,fr,σ=>∃ g cap,fr k=.val (.func (.func g) #[] cap)/\Q .normal (dfr g cap::ds) fr σ
 | e,fr,σ=>Q e ds fr σ
theorem M0(Q:Exit->List nK->Fr->Store->Prop)(ds:List nK)(k:Nat)(fr:Fr)(σ:Store):bP Q ds k .normal fr σ=∃ g cap,fr k=.val (.func (.func g) #[] cap)/\Q .normal (dfr g cap::ds) fr σ:=propext mG
attribute [go_sem ↓] M0
def bW(o:nI)(k:Nat):Bool:=match o.op,o.guard,o.dst with
 | .defer { callee:=.value (.tmp j),args:=⟨[]⟩,.. },none,none=>j == k
 | _,_,_=>false
theorem DWp.region{P:nE}{n:Nat}{ds:List nK}{mu:List Nat}{id:Nat}{pre:List nI}{o:nI}{Q:Exit->List nK->Fr->Store->Prop}{fr:Fr}{σ:Store}(k:Nat)(hB:(pre++[o]).all (opB n)=true)(ho:bW o k=true)(hk:k<n)
 (h:XU P mu ⟨pre++[o]⟩ pre (bP Q ds k) fr σ):DWp P n ds (.region id ⟨pre++[o]⟩ false) Q fr σ:=by
 intro a w hc Q' hq
 have hBl:=List.all_eq_true.1 hB
 refine(mF (n:=0)).1 (wpIn_region_list (Qc (YR hB) pre (fun o ho=>hBl o (my _ ho)) fr σ a w h hc (Ev.refl _ _) (fun fr' σ' a' w' q c v=>?_) (fun e fr' σ' a' w' hne q c v=>?_)))
 ·obtain⟨g,cap,hfr,q⟩:=q
  unfold bW at ho
  split at ho
  ·rename_i j ts h1 h2 h3
   have hj:j=k:=by simpa using ho
   subst hj
   have hv:=c.fr.slot j hk
   rw[hfr] at hv
   have hev:a'.eval (.tmp j)=a'.tmps.getD j undef:=rfl
   generalize a'.tmps.getD j undef=u at hv hev
   cases hv
   refine wpListIn_step fun K hK=>?_
   rw[gZ (by simp[Region.wanted,h2])]
   have hrun:(execOp a'.eval o).run P w'=.ok (.defer (dfr g cap)) w':=by
    unfold execOp
    rw[h1]
    simp only[jZ,resolve,hev,Deferred.ofValue,kf,kC,dfr]
    simp
   refine⟨fun _ _=>trivial,?_⟩
   rw[Oper.semAt_none,hrun,Oper.uponIn_defer,h3]
   refine hK _ _ (hq _ _ _ _ _ _ q ⟨?_,c.fr,c.ok⟩ v)
   show dfr g cap::a'.defers=_
   rw[c.defers]
  ·cases ho
 ·cases e with
  | normal=>exact absurd rfl hne
  | exit i=>exact hq _ _ _ _ _ _ q c v
  | goto l=>exact hq _ _ _ _ _ _ q c v
  | ret=>exact hq _ _ _ _ _ _ q c v
  | panic ch=>exact hq _ _ _ _ _ _ q c v
  | outgrown=>exact hq _ _ _ _ _ _ q c v
def Xf(P:nE)(rs:List ResultVar)(R:ZE->Store->Prop)(fr:Fr):Store->Prop:=fun σ=>Ts P rs fr σ fun l=>Tw R (dN l) σ
def UO(P:nE)(rs:List ResultVar)(R:ZE->Store->Prop):Exit->List nK->Fr->Store->Prop
 | .normal,[],fr,σ|.ret,[],fr,σ=>Xf P rs R fr σ
 | .normal,[d],fr,σ|.ret,[d],fr,σ=>∃ g cap,d=dfr g cap/\Vl P g cap.toList .returning .returning σ (Xf P rs R fr)
 | .panic c,[],fr,σ=>∃ pv,c=[{ v:=pv,recovered:=false }]/\JN R pv σ
 | .panic c,[d],fr,σ=>∃ g cap pv,d=dfr g cap/\c=[{ v:=pv,recovered:=false }]/\Vl P g cap.toList (.panicking [{ v:=pv,recovered:=false }]) (.panicking [{ v:=pv,recovered:=true }]) σ (Xf P rs R fr)
 | _,_,_,_=>False
theorem WY(P:nE)(rs:List ResultVar)(R:ZE->Store->Prop)(d:nK)(fr:Fr)(σ:Store):UO P rs R .ret [d] fr σ=∃ g cap,d=dfr g cap/\Vl P g cap.toList .returning .returning σ (Xf P rs R fr):=propext mG
theorem U9(P:nE)(rs:List ResultVar)(R:ZE->Store->Prop)(d:nK)(c:List PanicEntry)(fr:Fr)(σ:Store):UO P rs R (.panic c) [d] fr σ=∃ g cap pv,d=dfr g cap/\c=[{ v:=pv,recovered:=false }]/\Vl P g cap.toList (.panicking [{ v:=pv,recovered:=false }]) (.panicking [{ v:=pv,recovered:=true }]) σ (Xf P rs R fr):=propext mG
theorem HI(P:nE)(rs:List ResultVar)(R:ZE->Store->Prop)(fr:Fr)(σ:Store):UO P rs R .ret [] fr σ=Xf P rs R fr σ:=propext mG
theorem HG(P:nE)(rs:List ResultVar)(R:ZE->Store->Prop)(fr:Fr)(σ:Store):Xf P rs R fr σ=Ts P rs fr σ fun l=>Tw R (dN l) σ:=propext mG
attribute [go_sem ↓] HI HG
theorem XF{P:nE}{f:nL}{fn:Func}{c:Code}{args:List AV}{σ:Store}{R:ZE->Store->Prop}(hf:P.funcs[f]?=some fn)(hb:fn.body=some c)
 (hchk:(fn.results.toList.all (Kk fn.ntmps)&&decide (args.length<=fn.ntmps)&&YV P f)=true) (h:DWp P fn.ntmps [] c (UO P fn.results.toList R) (Fr.args args) σ):Zh P f args σ R:=by
 simp only[kJ,kD] at hchk
 obtain⟨⟨h2,h3⟩,h4⟩:=hchk
 refine⟨h4,fun w vs hσ hv=>?_⟩
 have hsz:vs.size=args.length:=by have:=hv.1;simp at this;omega
 refine calls_of_wp_defers hf hb ?_
 have endK:∀ fr' σ' (a':Act) w',Xf P fn.results.toList R fr' σ'->XM fn.ntmps (live σ') w' fr' a'.tmps->Zq σ' w'->Ev σ w σ' w'->∃ v,(results fn a'.tmps).run P w'=.ok v w'/\Wb σ w R (.returned v) w':=by
  exact oN
 have inv:∀ (g:nL) (cap:nN nG) (w':nH),YV P g=true->(invoke (.fn (.func g) cap) #[]).run P w'=.ok (.enter g cap) w':=by
  exact tu
 have goD:∀ (u u':FrameMode) (hu:u≠.run) (hst:settle u'=.returning) (g:nL) (cap:nN nG) (fr':Fr) (σ':Store) (a':Act) (w':nH),Vl P g cap.toList u u' σ' (Xf P fn.results.toList R fr')->XM fn.ntmps (live σ') w' fr' a'.tmps->Zq σ' w'->Ev σ w σ' w' ->
  Leaves P fn a'.tmps (Wb σ w R) [dfr g cap] u w':=by
  exact oQ
 refine h _ w ⟨rfl,⟨by simp;omega,fun i hi=>?_⟩,hσ⟩ _ (fun e ds' fr' σ' a' w' q c' v=>?_)
 ·exact oA
 ·have hd:=c'.defers
  have nd:∀ (e:Exit),(e=.normal\/e=.ret)->UO P fn.results.toList R e ds' fr' σ'->Leaves P fn a'.tmps (Wb σ w R) a'.defers .returning w':=by
   intro e he q
   rw[hd]
   match ds',q with
   | [],q =>
     have q':Xf P fn.results.toList R fr' σ':=by rcases he with rfl|rfl<;>exact q
     obtain⟨y,hy1,hy2⟩:=endK fr' σ' a' w' q' c'.fr c'.ok v
     exact⟨y,hy1,hy2⟩
   | [d],q =>
     have q':∃ g cap,d=dfr g cap/\Vl P g cap.toList .returning .returning σ' (Xf P fn.results.toList R fr'):=by rcases he with rfl|rfl<;>exact q
     obtain⟨g,cap,rfl,hD⟩:=q'
     exact goD _ _ xf rfl g cap fr' σ' a' w' hD c'.fr c'.ok v
   | _::_::_,q=>rcases he with rfl|rfl<;>exact q.elim
  cases e with
  | normal=>exact nd _ (.inl rfl) q
  | ret=>exact nd _ (.inr rfl) q
  | panic ch =>
    show Leaves P fn a'.tmps (Wb σ w R) a'.defers (.panicking ch) w'
    rw[hd]
    match ds',q with
    | [],q =>
      obtain⟨pv,rfl,σ2,k1,k2⟩:=q
      exact⟨pv,σ2,rfl,k2,c'.ok.sub k1,v.trans (k1.ev w')⟩
    | [d],q =>
      obtain⟨g,cap,pv,rfl,rfl,hD⟩:=q
      exact goD _ _ xf rfl g cap fr' σ' a' w' hD c'.fr c'.ok v
  | exit i=>cases ds'<;>exact q.elim
  | goto l=>cases ds'<;>exact q.elim
  | outgrown=>cases ds'<;>exact q.elim
open Go.RowKit
def Fr.turn(ch:List Nat)(l:List (Nat×AV))(fr:Fr):Fr:=fun i=>match l with
 | []=>if ch.contains i then .any else fr i
 | (j,v)::r=>if i=j then v else Fr.turn ch r fr i
theorem Qe(ch:List Nat)(fr:Fr)(i:Nat):Fr.turn ch [] fr i=if ch.contains i then .any else fr i:=rfl
theorem SJ(ch:List Nat)(j:Nat)(v:AV)(l:List (Nat×AV))(fr:Fr)(i:Nat):Fr.turn ch ((j,v)::l) fr i=if i=j then v else Fr.turn ch l fr i:=rfl
def Zf(ch:List Nat)(fr fr':Fr):Prop:=∀ i,ch.contains i=false->fr' i=fr i
theorem Zf.refl(ch:List Nat)(fr:Fr):Zf ch fr fr:=fun _ _=>rfl
theorem Zf.put{ch:List Nat}{fr fr':Fr}{a:Nat}{v:AV}(h:ch.contains a=true)(k:Zf ch fr fr'):Zf ch fr (fr'.put a v):=by
 intro i hi
 simp only[Fr.put]
 rw[ig (fun e=>by rw[e,h] at hi;cases hi)]
 exact k i hi
def Io(ch:List Nat):List (Nat×AV)->Bool
 | []=>true
 | (j,_)::r=>ch.contains j&&Io ch r
theorem Zf.turn{ch:List Nat}{fr:Fr}:∀ (l:List (Nat×AV)),Io ch l=true->Zf ch fr (Fr.turn ch l fr):=by
 intro l
 induction l with
 | nil=>intro _ i hi;simp only[Qe,hi];rfl
 | cons p r ih =>
   obtain⟨j,v⟩:=p
   intro h i hi
   simp only[Io,kJ] at h
   rw[SJ,ig (fun e=>by rw[e,h.1] at hi;cases hi)]
   exact ih h.2 i hi
theorem de{ch ch2:List Nat}{fr fr':Fr}(l:List (Nat×AV))(h:ch2.all (fun i=>ch.contains i)=true)(hk:Io ch2 l=true)(k:Zf ch fr fr'):Zf ch fr (Fr.turn ch2 l fr'):=by
 intro i hi
 have h2:ch2.contains i=false:=by
  cases hc:ch2.contains i with
  | false=>rfl
  | true =>
    rw[mK] at hc
    have:=List.all_eq_true.1 h i hc
    rw[this] at hi;cases hi
 rw[Zf.turn l hk i h2]
 exact k i hi
def JL:List (Nat×AV)->Fr->Prop
 | [],_=>True
 | (j,v)::r,fr=>Wk (fr j) v/\JL r fr
theorem Pz.of_turn{ch:List Nat}{fr fr':Fr}(h2:Zf ch fr fr'):∀ (l:List (Nat×AV)),JL l fr'->Pz fr' (Fr.turn ch l fr):=by
 intro l
 induction l with
 | nil =>
   intro _ i
   rw[Qe]
   by_cases hi:ch.contains i=true
   ·rw[gZ hi];exact Wk.any _
   ·rw[ig hi,h2 i xM];exact Wk.refl _
 | cons p r ih =>
   obtain⟨j,v⟩:=p
   intro h i
   rw[SJ]
   by_cases e:i=j
   ·rw[gZ e,e];exact h.1
   ·rw[ig e];exact ih h.2 i
def Uo(fr:Fr)(σ:Store)(fr':Fr)(σ':Store):Prop:=∀ (n:Nat) (w:nH) (tmps:nN nG),Zq σ w->XM n (live σ) w fr tmps->Zq σ' w/\XM n (live σ') w fr' tmps/\Ev σ w σ' w
theorem Uo.refl(fr:Fr)(σ:Store):Uo fr σ fr σ:=fun _ w _ h k=>⟨h,k,Ev.refl σ w⟩
theorem Uo.conf{fr fr':Fr}{σ σ':Store}(h:Uo fr σ fr' σ'){n:Nat}{ds:List nK}{a:Act}{w:nH}(c:YL n ds σ fr a w):YL n ds σ' fr' a w/\Ev σ w σ' w:=by
 obtain⟨a1,a2,a3⟩:=h n w a.tmps c.ok c.fr
 exact⟨⟨c.defers,a2,a1⟩,a3⟩
def Nx{α:Type}(ch:List Nat)(l:α->List (Nat×AV))(S:α->Store)(I:α->Prop)(μ:α->Nat)(x:α)(fr0:Fr):Exit->Fr->Store->Prop :=
 fun _ fr σ=>∃ y,I y/\μ y<μ x/\∃ fr2 σ2,Uo fr σ fr2 σ2/\JL (l y) fr2/\Zf ch fr0 fr2/\Sub (S y) σ2
theorem Nx.mk{α:Type}{ch:List Nat}{l:α->List (Nat×AV)}{S:α->Store}{I:α->Prop}{μ:α->Nat}{x:α}{fr0 fr:Fr}{e:Exit}{σ:Store}(y:α)(h1:I y)(h2:μ y<μ x)(h3:JL (l y) fr)(h4:Zf ch fr0 fr)(h5:Sub (S y) σ):Nx ch l S I μ x fr0 e fr σ:=⟨y,h1,h2,fr,σ,.refl _ _,h3,h4,h5⟩
theorem Nx.mkS{α:Type}{ch:List Nat}{l:α->List (Nat×AV)}{S:α->Store}{I:α->Prop}{μ:α->Nat}{x:α}{fr0 fr:Fr}{e:Exit}{σ:Store}(y:α)(fr2:Fr)(σ2:Store)(hs:Uo fr σ fr2 σ2)(h1:I y)(h2:μ y<μ x)(h3:JL (l y) fr2)(h4:Zf ch fr0 fr2)(h5:Sub (S y) σ2):Nx ch l S I μ x fr0 e fr σ:=⟨y,h1,h2,fr2,σ2,hs,h3,h4,h5⟩
def Ow(N:Exit->Fr->Store->Prop)(Q:Exit->Fr->Store->Prop):Exit->Fr->Store->Prop
 | .normal,fr,σ=>N .normal fr σ
 | e,fr,σ=>Q e fr σ
theorem Nl(N Q:Exit->Fr->Store->Prop)(fr:Fr)(σ:Store):Ow N Q .normal fr σ=N .normal fr σ:=propext mG
theorem KN(N Q:Exit->Fr->Store->Prop)(i:Nat)(fr:Fr)(σ:Store):Ow N Q (.exit i) fr σ=Q (.exit i) fr σ:=propext mG
theorem HE(N Q:Exit->Fr->Store->Prop)(fr:Fr)(σ:Store):Ow N Q .ret fr σ=Q .ret fr σ:=propext mG
theorem MZ(N Q:Exit->Fr->Store->Prop)(c:List PanicEntry)(fr:Fr)(σ:Store):Ow N Q (.panic c) fr σ=Q (.panic c) fr σ:=propext mG
attribute [go_sem ↓] Nl KN HE MZ
attribute [go_sem] Qe SJ
theorem Zp{P:nE}{n:Nat}{ds:List nK}{mu:List Nat}{dr:List (Nat×Nat×Nat)}{c:Code}{Q:Exit->Fr->Store->Prop}{fr:Fr}{σ:Store}{α:Type}(ch:List Nat)(l:α->List (Nat×AV))(S:α->Store)(I:α->Prop)(μ:α->Nat)(x:α)
 (hB:(P.follows .mixedOrders&&Vu n dr c)=true) (h1:I x) (h2:JL (l x) fr) (h3:Sub (S x) σ)
 (hr:∀ x,I x->avc P n ds mu dr c (Ow (Nx ch l S I μ x fr) Q) (Fr.turn ch (l x) fr) (S x)):AWp P n ds (.loop c) Q fr σ:=by
 simp only[kJ] at hB
 intro a w hc Q' hq ro m0
 refine vP ?_
 rintro m a1 w1 ⟨y,hy,rfl,hc1,hv1⟩
 refine Zn hB.1 c hB.2 _ _ _ (hr y hy) a1 w1 hc1 _ (fun e fr' σ' a' w' q c' v=>?_) ro m0
 exact po
def Wks:List AV->List AV->Prop
 | [],[]=>True
 | a::r,b::s=>Wk a b/\Wks r s
 | _,_=>False
theorem Wks.refl:∀ l,Wks l l
 | []=>trivial
 | a::r=>⟨Wk.refl a,Wks.refl r⟩
theorem Wks.len:∀ {l m:List AV},Wks l m->l.length=m.length
 | [],[],_=>rfl
 | _::_,_::_,h=>by simp[Wks.len h.2]
 | [],_::_,h=>h.elim
 | _::_,[],h=>h.elim
theorem Wks.get:∀ {l m:List AV},Wks l m->∀ (i:Nat) (a b:AV),l[i]?=some a->m[i]?=some b->Wk a b
 | x::r,y::s,h,0,a,b,ha,hb=>by simp at ha hb;rw[<- ha,<- hb];exact h.1
 | x::r,y::s,h,i+1,a,b,ha,hb=>Wks.get h.2 i a b xR (by simpa using hb)
 | [],[],_,i,a,b,ha,_=>by simp at ha
 | [],_::_,h,_,_,_,_,_=>h.elim
 | _::_,[],h,_,_,_,_,_=>h.elim
theorem Zh.wk{P:nE}{f:nL}{args args':List AV}{σ:Store}{R:ZE->Store->Prop}(h:Zh P f args' σ R)(k:Wks args args'):Zh P f args σ R:=by
 refine⟨h.1,fun w vs hσ hv=>h.2 w vs hσ ⟨by rw[<- k.len];exact hv.1,fun i b v hb hvi=>?_⟩⟩
 have hi:i<args.length:=by rw[k.len];exact(List.getElem?_eq_some_iff.1 hb).1
 exact k.get i _ b (iO hi) hb _ _ _ (hv.2 i _ v (iO hi) hvi)
theorem Zh.sub{P:nE}{f:nL}{args:List AV}{σ σ1:Store}{R:ZE->Store->Prop}(h:Zh P f args σ1 R)(k:Sub σ1 σ):Zh P f args σ R:=by
 refine⟨h.1,fun w vs hσ hv=>(h.2 w vs (hσ.sub k) ⟨hv.1,fun i a v ha hvi=>(hv.2 i a v ha hvi).ev (k.ev w)⟩).mono fun e w' he=>?_⟩
 cases e with
 | returned v=>obtain⟨av,σ',a,b,c,d⟩:=he;exact⟨av,σ',a,b,c,(k.ev w).trans d⟩
 | panicked c=>obtain⟨pv,σ',e,a,b,d⟩:=he;exact⟨pv,σ',e,a,b,(k.ev w).trans d⟩
 | outgrown=>exact he
def Ok(a:AV):Prop:=∃ L w v,V L w a v
theorem Ok.agg{cs:List AV}(h:Ok (.agg cs)){c:AV}(hc:c∈cs):Ok c:=by
 obtain⟨L,w,v,h⟩:=h
 cases h with
 | agg _ vs hl h =>
   obtain⟨i,hi,he⟩:=iN hc
   exact⟨L,w,_,h i c _ (by rw[<- he];exact iO hi) (iO xh)⟩
theorem Ok.len{r:Rt}{s:Nat}{es:List (List AV)}(h:Ok (.list r s es)):es.length<=137438953472:=by
 obtain⟨L,w,v,h⟩:=h
 cases h with
 | list _ _ _ cap a b o rd hcap hlim=>exact hlim
theorem Ok.mem{r:Rt}{s:Nat}{es:List (List AV)}(h:Ok (.list r s es)){e:List AV}(he:e∈es):Ok (.agg e):=by
 obtain⟨L,w,v,h⟩:=h
 cases h with
 | list _ _ _ cap a b o rd hcap hlim hsz ha hr h1 h2 =>
   obtain⟨i,hi,hx⟩:=iN he
   have hi':es[i]?=some e:=by rw[<- hx];exact iO hi
   refine⟨L,w,_,V.agg e ((List.range e.length).map fun j=>rd (i * s+j)) xf (fun j c v hj hv=>?_)⟩
   have hjl:=(List.getElem?_eq_some_iff.1 hj).1
   rw[jp,lB hjl] at hv
   simp only[jX,jq] at hv
   rw[<- hv]
   exact h2 i e j c hi' hj
theorem Zh.ok{P:nE}{f:nL}{args:List AV}{σ:Store}{R:ZE->Store->Prop}(he:YV P f=true)(h:(∀ a∈args,Ok a)->Zh P f args σ R):Zh P f args σ R:=by
 refine⟨he,fun w vs hσ hv=>(h (fun a ha=>?_)).2 w vs hσ hv⟩
 obtain⟨i,hi,hx⟩:=iN ha
 have hl:=hv.1
 exact⟨live σ,w,_,hv.2 i a _ (by rw[<- hx];exact iO hi) (iO xh)⟩
theorem Zk{x:Int}(h1:-9223372036854775808<=x)(h2:x<=9223372036854775807):IntKind.i64.wrap x=x:=by
 rw[IntKind.wrap_i64];omega
end Go.Vx
end
