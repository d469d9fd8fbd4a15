/- Part Q14 of the proof of treeLooksProved: the walk of the program on abstract values, and the plain law. -/
import Derived.Test.YtmedmnondjmleaaGreatQ13
import Derived.Test.YtmedmnondjmleaaGreatQ12
import Derived.Test.YtmedmnondjmleaaGreatProg
import Derived.KernelRfl
import Derived.Lib.Bytealg
set_option linter.unusedVariables false
set_option linter.unusedSimpArgs false
section
namespace Go.Vx
open Go.RowKit
theorem AWp.seq {P:Program}{n:Nat}{ds:List Deferred}{x y:Code}{Q:Exit→Fr→Store→Prop}{fr:Fr}{σ:Store}(h:AWp P n ds x (Ux (fun Q fr σ=>AWp P n ds y Q fr σ) Q) fr σ):AWp P n ds (.seq x y) Q fr σ:=by
 intro a w hc Q' hq
 refine wp_seq (h a w hc _ (fun e fr' σ' a' w' q c' v=>?_))
 cases e with
 | normal=>exact q a' w' c' Q' (fun e2 fr2 σ2 a2 w2 q2 c2 v2=>hq e2 fr2 σ2 a2 w2 q2 c2 (v.trans v2))
 | exit i=>exact hq _ _ _ _ _ q c' v
 | goto l=>exact hq _ _ _ _ _ q c' v
 | ret=>exact hq _ _ _ _ _ q c' v
 | panic ch=>exact hq _ _ _ _ _ q c' v
 | outgrown=>exact hq _ _ _ _ _ q c' v
theorem AWp.cond {P:Program}{n:Nat}{ds:List Deferred}{c:Operand}{x y:Code}{Q:Exit→Fr→Store→Prop}{fr:Fr}{σ:Store}(hB:de n c=true)(b:Bool)(hb:fr.ev c=.val (.bool b))(h1:b=true→AWp P n ds x Q fr σ)(h2:b=false→AWp P n ds y Q fr σ):AWp P n ds (.cond c x y) Q fr σ:=by
 intro a w hc Q' hq
 have hv:=hc.fr.operand (a:=a) hB
 rw [hb] at hv
 generalize hx:a.eval c=x at hv
 cases hv
 exact wp_cond_split hx (fun hb=>h1 hb a w hc Q' hq) (fun hb=>h2 hb a w hc Q' hq)
theorem AWp.skip {P:Program}{n:Nat}{ds:List Deferred}{Q:Exit→Fr→Store→Prop}{fr:Fr}{σ:Store}(h:Q .normal fr σ):AWp P n ds .skip Q fr σ:=fun a w hc Q' hq=>wp_skip (hq _ _ _ _ _ h hc (Ev.refl _ _))
theorem AWp.block {P:Program}{n:Nat}{ds:List Deferred}{id:Nat}{x:Code}{Q:Exit→Fr→Store→Prop}{fr:Fr}{σ:Store}(h:AWp P n ds x (VT id Q) fr σ):AWp P n ds (.block id x) Q fr σ:=by
 intro a w hc Q' hq
 refine wp_block (h a w hc _ (fun e fr' σ' a' w' q c' v=>?_))
 cases e with
 | normal=>exact hq _ _ _ _ _ q c' v
 | exit i =>
   simp only [VT] at q
   simp only [Exit.inBlock]
   split
   ·rename_i e;rw [if_pos e] at q;exact hq _ _ _ _ _ q c' v
   ·rename_i e;rw [if_neg e] at q;exact hq _ _ _ _ _ q c' v
 | goto l=>exact hq _ _ _ _ _ q c' v
 | ret=>exact hq _ _ _ _ _ q c' v
 | panic ch=>exact hq _ _ _ _ _ q c' v
 | outgrown=>exact hq _ _ _ _ _ q c' v
theorem AWp.loopT {P:Program}{n:Nat}{ds:List Deferred}{c:Code}{Q:Exit→Fr→Store→Prop}{fr:Fr}{σ:Store}{α:Type}(ch:List Nat)(l:α→List (Nat×AV))(S:α→Store)(I:α→Prop)(μ:α→Nat)(x:α)
 (h1:I x) (h2:K7 (l x) fr) (h3:Sub (S x) σ)
 (hr:∀ x,I x→AWp P n ds c (Od (Nx ch l S I μ x fr) Q) (Fr.turn ch (l x) fr) (S x)):AWp P n ds (.loop c) Q fr σ:=by
 intro a w hc Q' hq
 refine wp_loop_ghost (fun m a' w'=>∃ x,I x∧μ x=m∧Y4 n ds (S x) (Fr.turn ch (l x) fr) a' w'∧Ev σ w (S x) w') (μ x) ⟨x,h1,rfl,hc.wk (.of_turn (.refl _ _) _ h2) h3,h3.ev w⟩ ?_
 rintro m a1 w1 ⟨y,hy,rfl,hc1,hv1⟩
 refine hr y hy a1 w1 hc1 _ (fun e fr' σ' a' w' q c' v=>?_)
 cases e with
 | normal =>
   obtain ⟨z,hz,hlt,fr2,σ2,hsh,hf,hk,hs⟩:=q
   obtain ⟨c2,v2⟩:=hsh.conf c'
   exact iB
 | exit i=>exact hq _ _ _ _ _ q c' (hv1.trans v)
 | goto l=>exact hq _ _ _ _ _ q c' (hv1.trans v)
 | ret=>exact hq _ _ _ _ _ q c' (hv1.trans v)
 | panic ch=>exact hq _ _ _ _ _ q c' (hv1.trans v)
 | outgrown=>exact hq _ _ _ _ _ q c' (hv1.trans v)
def Nb (id:Nat)(Q:Exit→List Deferred→Fr→Store→Prop):Exit→List Deferred→Fr→Store→Prop
 | .exit i,ds,fr,σ=>if i=id then Q .normal ds fr σ else Q (.exit i) ds fr σ
 | e,ds,fr,σ=>Q e ds fr σ
theorem DWp.block {P:Program}{n:Nat}{ds:List Deferred}{id:Nat}{x:Code}{Q:Exit→List Deferred→Fr→Store→Prop}{fr:Fr}{σ:Store}(h:DWp P n ds x (Nb id Q) fr σ):DWp P n ds (.block id x) Q fr σ:=by
 intro a w hc Q' hq
 refine wp_block (h a w hc _ (fun e ds' fr' σ' a' w' q c' v=>?_))
 cases e with
 | normal=>exact hq _ _ _ _ _ _ q c' v
 | exit i =>
   simp only [Nb] at q
   simp only [Exit.inBlock]
   split
   ·rename_i e;rw [if_pos e] at q;exact hq _ _ _ _ _ _ q c' v
   ·rename_i e;rw [if_neg e] at q;exact hq _ _ _ _ _ _ q c' v
 | goto l=>exact hq _ _ _ _ _ _ q c' v
 | ret=>exact hq _ _ _ _ _ _ q c' v
 | panic ch=>exact hq _ _ _ _ _ _ q c' v
 | outgrown=>exact hq _ _ _ _ _ _ q c' v
inductive Ord where
 | done
 | alt (i:Nat) (t r:Ord)
def Ord.keys:Ord→List Nat
 | .done=>[]
 | .alt i _ r=>i::r.keys
def Ord.depth:Ord→Nat
 | .done=>0
 | .alt _ t r=>max (t.depth+1) r.depth
def dA (ops:Array Oper):Ord→Array Bool→Bool
 | .done,_=>true
 | .alt i t r,ls=>decide (Region.ready .any ops (ls.setIfInBounds i true)=t.keys)&&dA ops t (ls.setIfInBounds i true)&&dA ops r ls
def Ord.ok (ops:Array Oper)(t:Ord):Bool:=decide (Region.ready .any ops (Array.replicate ops.size false)=t.keys)&&dA ops t (Array.replicate ops.size false)&&decide (t.depth≤ops.size)
def O7 (t:Ord)(k:(Exit→Fr→Store→Prop)→Fr→Store→Prop):(Exit→Fr→Store→Prop)→Fr→Store→Prop:=fun Q fr σ=>match t with
 | .done=>Q .normal fr σ
 | .alt _ _ _=>k Q fr σ
def U6 (P:Program)(mu:List Nat)(ops:Array Oper):Ord→(Exit→Fr→Store→Prop)→Fr→Store→Prop
 | .done,_,_,_=>True
 | .alt i t r,Q,fr,σ=>(match ops[i]? with
  | some o=>XJ ops o.guard fr (kDo P mu (O7 t (U6 P mu ops t)) Q σ o) (Oc (O7 t (U6 P mu ops t)) Q σ o.dst)
  | none=>False)∧U6 P mu ops r Q fr σ
theorem KM {P:Program}{mu:List Nat}{ops:Array Oper}{n:Nat}{ds:List Deferred}{Q:Exit→Fr→Store→Prop}{Q':Exit→Act→World→Prop}{σ0:Store}{w0:World}(hB:∀ o∈ops.toList,opB n o=true)
 (hq:∀ e fr' σ' a' w',Q e fr' σ'→Y4 n ds σ' fr' a' w'→Ev σ0 w0 σ' w'→Q' e a' w') :
 ∀ (t:Ord) (fuel:Nat) (ls:Array Bool) (fr:Fr) (σ:Store) (a:Act) (w:World),dA ops t ls=true→t.depth≤fuel+1→U6 P mu ops t Q fr σ→Y4 n ds σ fr a w→Ev σ0 w0 σ w →
   ∀ j∈t.keys,wpOp P ops Q' j (wpAny P .any ops Q' fuel (ls.setIfInBounds j true)) a w:=by
 have hn:∀ (j d:Nat),(ops[j]?).bind (·.dst)=some d→d<n:=YZ (List.all_eq_true.2 hB)
 intro t
 induction t with
 | done=>intro fuel ls fr σ a w _ _ _ _ _ j hj;simp [Ord.keys] at hj
 | alt i t r iht ihr =>
   intro fuel ls fr σ a w hs hd h hc hv j hj
   simp only [dA,Bool.and_eq_true,decide_eq_true_eq] at hs
   obtain ⟨⟨hs1,hs2⟩,hs3⟩:=hs
   simp only [Ord.depth] at hd
   simp only [U6] at h
   obtain ⟨h1,h2⟩:=h
   rcases List.mem_cons.1 hj with rfl | hj
   ·split at h1
    case h_2=>exact h1.elim
    rename_i o ho
    have hBo:=hB o (by rw [← Array.getElem?_toList] at ho;exact List.mem_of_getElem? ho)
    have hdst:=Xk hBo
    have next:∀ (fr':Fr) (σ':Store) (a':Act) (w':World),O7 t (U6 P mu ops t) Q fr' σ'→Y4 n ds σ' fr' a' w'→Ev σ0 w0 σ' w'→wpAny P .any ops Q' fuel (ls.setIfInBounds j true) a' w':=by
     intro fr' σ' a' w' hk hc' hv'
     cases t with
     | done =>
       have hk':=hq _ _ _ _ _ hk hc' hv'
       cases fuel with
       | zero=>exact ⟨hs1,hk'⟩
       | succ f=>exact ⟨fun _=>hk',fun k hkk=>by rw [hs1] at hkk;simp [Ord.keys] at hkk⟩
     | alt i2 t2 r2 =>
       simp only [Ord.depth] at hd
       obtain ⟨f,rfl⟩:∃ f,fuel=f+1:=⟨fuel-1,by omega⟩
       refine ⟨fun he=>by rw [hs1] at he;simp [Ord.keys] at he,fun k hkk=>?_⟩
       rw [hs1] at hkk
       exact iht f _ fr' σ' a' w' hs2 (by simp only [Ord.depth];omega) hk hc' hv' k hkk
    unfold wpOp
    simp only [ho]
    rcases Wb h1 hc.fr hn with ⟨hw,fr',hf',hA⟩ | ⟨hw,fr',hf',hA⟩
    ·rw [if_pos hw]
     refine .inl (Xi hA a w hc.ok (fun x hx=>hf'.operand (Wj hBo x hx)) _ Q' (fun av σ' v w' hk hv2 hs he=>?_) (fun pv σ' w' hk hs he=>?_))
     ·exact next _ _ _ _ hk ⟨by rw [ZI];exact hc.defers,(hf'.ev he).put hdst hv2,hs⟩ (hv.trans he)
     ·exact hq _ _ _ _ _ hk ⟨hc.defers,hf'.ev he,hs⟩ (hv.trans he)
    ·rw [if_neg (by rw [hw];exact Bool.false_ne_true)]
     exact next _ _ _ _ hA ⟨by rw [ZI];exact hc.defers,hf'.put hdst (.val undef),hc.ok⟩ hv
   ·exact ihr fuel ls fr σ a w hs3 (by omega) h2 hc hv j hj
theorem AWp.ord {P:Program}{n:Nat}{ds:List Deferred}{mu:List Nat}{id:Nat}{ops:Array Oper}{Q:Exit→Fr→Store→Prop}{fr:Fr}{σ:Store}(i:Nat)(t r:Ord)(hm:P.follows .mixedOrders=true)(hB:ops.toList.all (opB n)=true)(hk:Ord.ok ops (.alt i t r)=true)
 (h:U6 P mu ops (.alt i t r) Q fr σ):AWp P n ds (.region id ops true) Q fr σ:=by
 intro a w hc Q' hq
 simp only [Ord.ok,Bool.and_eq_true,decide_eq_true_eq] at hk
 obtain ⟨⟨k1,k2⟩,k3⟩:=hk
 refine wp_region_any hm ?_
 have k3':Ord.depth (.alt i t r)≤ops.size:=k3
 simp only [Ord.depth] at k3'
 obtain ⟨f,hf⟩:∃ f,ops.size=f+1:=⟨ops.size-1,by omega⟩
 have ev:=Ev.drew σ w
 have key:=KM (P:=P) (mu:=mu) (ops:=ops) (n:=n) (ds:=ds) (Q:=Q) (Q':=Q') (σ0:=σ) (w0:=w) (List.all_eq_true.1 hB) hq (.alt i t r) f (Array.replicate ops.size false) fr σ a _ k2 (by omega) h ⟨hc.defers,hc.fr.ev ev,hc.ok.drew⟩ ev
 rw [hf] at k1 key ⊢
 exact ⟨fun he=>by rw [k1] at he;simp [Ord.keys] at he,fun j hj=>key j (by rw [← k1];exact hj)⟩
theorem Yc (P:Program)(mu:List Nat)(ops:Array Oper)(Q:Exit→Fr→Store→Prop)(fr:Fr)(σ:Store):U6 P mu ops .done Q fr σ=True:=rfl
theorem Z4 (k:(Exit→Fr→Store→Prop)→Fr→Store→Prop)(Q:Exit→Fr→Store→Prop)(fr:Fr)(σ:Store):O7 .done k Q fr σ=Q .normal fr σ:=rfl
theorem Yp (i:Nat)(t r:Ord)(k:(Exit→Fr→Store→Prop)→Fr→Store→Prop)(Q:Exit→Fr→Store→Prop)(fr:Fr)(σ:Store):O7 (.alt i t r) k Q fr σ=k Q fr σ:=rfl
theorem CY (l:List Oper)(i:Nat):(Array.mk l)[i]?=l[i]?:=by simp
theorem Lc {P:Program}{g:FuncId}{fn:Func}{rest:Code}{id:Nat}{o:Oper}{r:List Oper}{cap:List Value}{u u':FrameMode}{rv:Value}{σ:Store}{K:Store→Prop}(mu:List Nat)(hR:Rec u rv u')
 (hf:P.funcs[g]?=some fn) (hb:fn.body=some (.seq (.region id ⟨o::r⟩ false) rest)) (d:Nat) (hres:fn.results=#[])
 (hchk:((o::r).all (opB fn.ntmps)&&decide (cap.length≤fn.ntmps)&&Xn P g&&DP o&&decide (o.dst=some d))=true)
 (h:Y7 P mu ⟨o::r⟩ r (Ux (fun Q fr σ=>AWp P fn.ntmps [] rest Q fr σ) (IX K)) ((Fr.args (cap.map .val)).put d (.val rv)) σ):Vr P g cap u u' σ K:=by
 simp only [Bool.and_eq_true,decide_eq_true_eq] at hchk
 obtain ⟨⟨⟨⟨h1,h3⟩,h4⟩,h5⟩,h6⟩:=hchk
 refine ⟨h4,fun w hσ=>?_⟩
 refine callsD_of_wpS hf hb (fun c₀ cs hu=>?_)
 have hall:∀ o'∈o::r,opB fn.ntmps o'=true:=by
  exact List.all_eq_true.1 h1
 have hargs:Wc fn.ntmps (live σ) w (Fr.args (cap.map .val)) (cap.toArray++Array.replicate (fn.ntmps-cap.toArray.size) undef):=by
  refine ⟨by simp;omega,fun i hi=>?_⟩
  unfold Fr.args
  by_cases hlt:i<cap.length
  ·have e1:(cap.map AV.val).getD i (.val undef)=.val cap[i]:=by simp [hlt]
   have e2:(cap.toArray++Array.replicate (fn.ntmps-cap.toArray.size) undef).getD i undef=cap[i]:=by
    simp [Array.getD_eq_getD_getElem?,Array.getElem?_append,hlt]
   rw [e1,e2];exact .val _
  ·have e1:(cap.map AV.val).getD i (.val undef)=.val undef:=by simp [List.getD_eq_getElem?_getD,List.getElem?_eq_none (show cap.length≤i by omega)]
   have e2:(cap.toArray++Array.replicate (fn.ntmps-cap.toArray.size) undef).getD i undef=undef:=by
    simp [Array.getD_eq_getD_getElem?,Array.getElem?_append,hlt,Array.getElem?_replicate]
    split<;>rfl
   rw [e1,e2];exact .val _
 refine wpS_seq (wpS_region ?_)
 have hrange:List.range (Array.mk (o::r)).size=0::List.range' 1 r.length:=by
  simp [List.range_eq_range',List.range'_succ]
 rw [hrange]
 simp only [wpOpsS,List.getElem?_toArray,List.getElem?_cons_zero]
 obtain ⟨hg,hrun⟩:=Jv (P:=P) (o:=o) (a:={ tmps:=cap.toArray++Array.replicate (fn.ntmps-cap.toArray.size) undef,defers:=[] }) (w:=w) h5
 rw [if_pos (by simp [Region.wanted,hg]),hrun]
 simp only
 have go:∀ cs',cs'={ c₀ with mode:=u' }::cs→wpOpsS P ⟨o::r⟩ (Exit.thenS (rest.wpS P (bodyPostS P fn c₀ cs (fun e u2 w'=>(∃ v,e=.returned v)∧u2=u'∧∃ σ',K σ'∧Zo σ' w'∧Ev σ w σ' w'))) (bodyPostS P fn c₀ cs (fun e u2 w'=>(∃ v,e=.returned v)∧u2=u'∧∃ σ',K σ'∧Zo σ' w'∧Ev σ w σ' w'))) (List.range' 1 r.length)
  (({ tmps:=cap.toArray++Array.replicate (fn.ntmps-cap.toArray.size) undef,defers:=[] }:Act).put o.dst rv) cs' w:=by
  intro cs' hcs
  refine Re (ds:=[]) (YZ (List.all_eq_true.2 hall)) r 1 (fun j=>by simp [Nat.add_comm]) (fun o' ho'=>hall o' (List.mem_cons_of_mem _ ho')) _ σ _ w h ⟨?_,?_,hσ⟩ (fun e fr' σ' a' w' q c v=>?_)
  ·rw [ZI]
  ·rw [h6]
   exact hargs.put (a:={ tmps:=_,defers:=[] }) (d:=some d) (fun k hk=>Xk (hall o List.mem_cons_self) k (by rw [h6];exact hk)) (.val rv)
  ·have fin:∀ (e:Exit) (fr2:Fr) (σ2:Store) (a2:Act) (w2:World),IX K e fr2 σ2→Y4 fn.ntmps [] σ2 fr2 a2 w2→Ev σ w σ2 w2→bodyPostS P fn c₀ cs (fun e u2 w'=>(∃ v,e=.returned v)∧u2=u'∧∃ σ',K σ'∧Zo σ' w'∧Ev σ w σ' w') e a2 cs' w2:=by
    intro e fr2 σ2 a2 w2 q2 c2 v2
    have hrs:∃ v,(results fn a2.tmps).run P w2=.ok v w2:=by
     refine ⟨.tuple #[],?_⟩
     unfold results
     rw [hres]
     simp
    obtain ⟨v,hv⟩:=hrs
    cases e with
    | normal=>obtain ⟨σ3,s3,q3⟩:=q2;exact ⟨c2.defers,u',hcs,v,hv,⟨v,rfl⟩,rfl,σ3,q3,c2.ok.sub s3,v2.trans (s3.ev _)⟩
    | ret=>obtain ⟨σ3,s3,q3⟩:=q2;exact ⟨c2.defers,u',hcs,v,hv,⟨v,rfl⟩,rfl,σ3,q3,c2.ok.sub s3,v2.trans (s3.ev _)⟩
    | exit i=>exact q2.elim
    | goto l=>exact q2.elim
    | panic ch=>exact q2.elim
    | outgrown=>exact q2.elim
   cases e with
   | normal =>
     refine wpS_of_wp ?_
     exact q a' w' c _ (fun e fr2 σ2 a2 w2 q2 c2 v2=>fin e fr2 σ2 a2 w2 q2 c2 (v.trans v2))
   | exit i=>exact fin (.exit i) fr' σ' a' w' q c v
   | goto l=>exact fin (.goto l) fr' σ' a' w' q c v
   | ret=>exact fin .ret fr' σ' a' w' q c v
   | panic ch=>exact fin (.panic ch) fr' σ' a' w' q c v
   | outgrown=>exact fin .outgrown fr' σ' a' w' q c v
 cases hR with
 | none =>
   have:recoverD (c₀::cs)=none:=by simp [recoverD,hu]
   rw [this]
   exact go _ (by rw [← hu])
 | some pv =>
   have:recoverD (c₀::cs)=some (rv,{ c₀ with mode:=.panicking [{ v:=rv,recovered:=true }] }::cs):=by simp [recoverD,hu]
   rw [this]
   exact go _ rfl
end Go.Vx
end
section
set_option maxRecDepth 100000
namespace Go.Vx
open Go.Proofs
def Pur (P:Program)(k:FuncId)(args:List AV)(v:AV):Prop:=∀ σ,Zj P k args σ (Z8 v σ)
theorem Pur.use {P:Program}{k:FuncId}{args:List AV}{v:AV}{σ:Store}{K:ZO→Store→Prop}(h:Pur P k args v)(hk:K (.ret v) σ):Zj P k args σ K :=
 (h σ).mono fun r σ' ⟨e,e'⟩=>by rw [e,e'];exact hk
theorem Pur.head {P:Program}{k:FuncId}{args:List AV}{v:AV}{σ:Store}{K:AV→Prop}(h:Pur P k args v)(hk:K v):Pf P (.val (.func (.func k) ⟨[]⟩ ⟨[]⟩)) args σ K :=
 ⟨v,fun σ' _=>by rw [Y5];simpa using h σ',hk⟩
theorem ZE {v v':AV}{σ σ':Store}(h:Wk v v')(s:Sub σ' σ):Tw (Z8 v' σ') v σ:=.mk h s ⟨rfl,rfl⟩
theorem ZC {b b':Bool}{σ:Store}(h:b=b'):Tw (Z8 (.val (.bool b')) σ) (.val (.bool b)) σ:=by rw [h];exact .mk (.refl _) (.refl _) ⟨rfl,rfl⟩
theorem X8 {n n':Int}{σ:Store}(h:n=n'):Tw (Z8 (.val (.int .i64 n')) σ) (.val (.int .i64 n)) σ:=by rw [h];exact .mk (.refl _) (.refl _) ⟨rfl,rfl⟩
theorem Zu {v:AV}{σ:Store}:Tw (Z8 v σ) v σ:=.mk (.refl _) (.refl _) ⟨rfl,rfl⟩
theorem RV:(Zl Tryz.prog 40=some (.int .i64 0))∧(Zh Tryz.prog 40=some 1)∧(Ze Tryz.prog 40=some false):=by
 refine ⟨?_,?_,?_⟩<;>first | trivial | kernel_rfl
theorem Gn:(ZJ (Tryz.prog.underlying 20)=true)∧((Tryz.prog.underlying 194).isSome=true)∧(ZJ (Tryz.prog.underlying 194)=false)∧(Zl Tryz.prog 194=some (.agg #[(.int .i64 0)]))∧(Zh Tryz.prog 194=some 1)∧(Zz Tryz.prog 194 0=some 0)∧(Zh Tryz.prog 40=some 1)∧(Ze Tryz.prog 40=some false):=by
 refine ⟨?_,?_,?_,?_,?_,?_,?_,?_⟩<;>first | trivial | kernel_rfl
theorem BF:(Zl Tryz.prog 194=some (.agg #[(.int .i64 0)]))∧(Yx Tryz.prog 194=some [(0,1)])∧((Tryz.prog.underlying 194).isSome=true)∧(ZJ (Tryz.prog.underlying 194)=false):=by
 refine ⟨?_,?_,?_,?_⟩<;>first | trivial | kernel_rfl
def YE (e:Int):Value:=.iface 194 (.agg #[.int .i64 e])
theorem Ap (e:Int):Pur Tryz.prog 104 [.val (.bool true),.val (.int .i64 e)] (.tup []):=by
 intro σ
 refine Zc [] [] Tryz.func104 rfl (by kernel_rfl) ?_;rw [Tryz.ntmps104,Tryz.results104]
 try simp only [go_sem,seval,BF]
 exact Zu
theorem Aq (e:Int)(σ:Store):Zj Tryz.prog 104 [.val (.bool false),.val (.int .i64 e)] σ (fun r σ'=>r=.pan (YE e)∧σ'=σ):=by
 refine Zc [] [] Tryz.func104 rfl (by kernel_rfl) ?_;rw [Tryz.ntmps104,Tryz.results104]
 try simp only [go_sem,seval,BF]
 exact iR
theorem VA {b:Bool}{e:Int}{σ:Store}{K:ZO→Store→Prop}(h1:b=true→K (.ret (.tup [])) σ)(h2:b=false→K (.pan (YE e)) σ):Zj Tryz.prog 104 [.val (.bool b),.val (.int .i64 e)] σ K:=by
 cases b with
 | true=>exact (Ap e).use (h1 rfl)
 | false=>exact (Aq e σ).mono (by rintro r _ ⟨rfl,rfl⟩;exact h2 rfl)
theorem Pw (b:Nat)(e:Int)(σ:Store)(hb:σ.get b=some (.cells [.val (.int .i64 e)]))(K:Store→Prop)(hK:K σ):Vr Tryz.prog 139 [.pointer (some ⟨b,0,none⟩)] .returning .returning σ K:=by
 refine UX [] [] .none Tryz.func139 rfl 4 rfl (by kernel_rfl) ?_
 rw [Tryz.ntmps139]
 try simp only [go_sem,seval,Gn]
 exact ⟨_,.refl _,hK⟩
theorem Pv (b:Nat)(e e':Int)(σ:Store)(hb:σ.get b=some (.cells [.val (.int .i64 e)]))(K:Store→Prop)(hK:K (σ.set b (.cells [.val (.int .i64 e')]))) :
 Vr Tryz.prog 139 [.pointer (some ⟨b,0,none⟩)] (.panicking [{ v:=YE e',recovered:=false }]) (.panicking [{ v:=YE e',recovered:=true }]) σ K:=by
 refine UX [2] [] (.some _) Tryz.func139 rfl 4 rfl (by kernel_rfl) ?_
 rw [Tryz.ntmps139]
 try simp only [go_sem,seval,Gn,YE]
 intro b1 hb1
 have hne:=Zt hb1 hb
 try simp only [go_sem,seval,Gn,hne,hb]
 exact ⟨_,.cons _ _,hK⟩
theorem UQ (f:Value)(σ:Store)(R:ZO→Store→Prop)
 (h:∀ b,Zx σ b→ZX Tryz.prog (.val f) [] ((b,.cells [.val (.int .i64 0)])::σ) (fun r σ'=>∃ σ1,σ'=(b,.cells [.val (.int .i64 0)])::σ1∧match r with | .ret _=>R (.ret (.val (.int .i64 0))) σ1 | .pan pv=>∃ e,pv=YE e∧R (.ret (.val (.int .i64 e))) σ1)) :
 Zj Tryz.prog 101 [.val f] σ R:=by
 refine W3 Tryz.func101 rfl (by kernel_rfl) ?_
 rw [Tryz.ntmps101,Tryz.results101]
 refine .seq (.of (ZD (mu:=[2]) (dr:=[]) (by kernel_rfl) _ (by kernel_rfl) _ _ _ ?_))
 refine iN ?_
 intro b hb
 simp only [XL]
 refine .seq (.region (mu:=[]) (pre:=[_]) 3 (by kernel_rfl) (by kernel_rfl) (by decide) ?_)
 refine iN ?_
 refine ⟨_,_,rfl,?_⟩
 simp only [XL]
 refine .of (ZD (mu:=[]) (dr:=[]) (by kernel_rfl) _ (by kernel_rfl) _ _ _ ?_)
 refine iN ?_
 refine (h b hb).mono ?_
 rintro r _ ⟨σ1,rfl,hr⟩
 cases r with
 | ret v =>
   refine iN ?_
   simp only [Su]
   refine ⟨_,_,rfl,?_⟩
   refine Pw b 0 _ (by simp [Store.get]) _ ?_
   refine iN ?_
   exact iL
 | pan pv =>
   obtain ⟨e,rfl,hr⟩:=hr
   refine iN ?_
   simp only [Sv]
   refine ⟨_,_,_,rfl,rfl,?_⟩
   refine Pv b 0 e _ (by simp [Store.get]) _ ?_
   refine iN ?_
   exact iL
theorem RT:(Zl Tryz.prog 40=some (.int .i64 0))∧(Zh Tryz.prog 40=some 1)∧(Ze Tryz.prog 40=some false):=by
 refine ⟨?_,?_,?_⟩<;>first | trivial | kernel_rfl
theorem Gg:(ZJ (Tryz.prog.underlying 20)=true)∧((Tryz.prog.underlying 265).isSome=true)∧(ZJ (Tryz.prog.underlying 265)=false)∧(Zl Tryz.prog 265=some (.agg #[(.int .i64 0)]))∧(Zh Tryz.prog 265=some 1)∧(Zz Tryz.prog 265 0=some 0)∧(Zh Tryz.prog 40=some 1)∧(Ze Tryz.prog 40=some false):=by
 refine ⟨?_,?_,?_,?_,?_,?_,?_,?_⟩<;>first | trivial | kernel_rfl
theorem Bu:(Zl Tryz.prog 265=some (.agg #[(.int .i64 0)]))∧(Yx Tryz.prog 265=some [(0,1)])∧((Tryz.prog.underlying 265).isSome=true)∧(ZJ (Tryz.prog.underlying 265)=false):=by
 refine ⟨?_,?_,?_,?_⟩<;>first | trivial | kernel_rfl
def VY (e:Int):Value:=.iface 265 (.agg #[.int .i64 e])
theorem CH (e:Int):Pur Tryz.prog 159 [.val (.bool true),.val (.int .i64 e)] (.tup []):=by
 intro σ
 refine Zc [] [] Tryz.func159 rfl (by kernel_rfl) ?_;rw [Tryz.ntmps159,Tryz.results159]
 try simp only [go_sem,seval,Bu]
 exact Zu
theorem CI (e:Int)(σ:Store):Zj Tryz.prog 159 [.val (.bool false),.val (.int .i64 e)] σ (fun r σ'=>r=.pan (VY e)∧σ'=σ):=by
 refine Zc [] [] Tryz.func159 rfl (by kernel_rfl) ?_;rw [Tryz.ntmps159,Tryz.results159]
 try simp only [go_sem,seval,Bu]
 exact iR
theorem Hn {b:Bool}{e:Int}{σ:Store}{K:ZO→Store→Prop}(h1:b=true→K (.ret (.tup [])) σ)(h2:b=false→K (.pan (VY e)) σ):Zj Tryz.prog 159 [.val (.bool b),.val (.int .i64 e)] σ K:=by
 cases b with
 | true=>exact (CH e).use (h1 rfl)
 | false=>exact (CI e σ).mono (by rintro r _ ⟨rfl,rfl⟩;exact h2 rfl)
theorem QY (b:Nat)(e:Int)(σ:Store)(hb:σ.get b=some (.cells [.val (.int .i64 e)]))(K:Store→Prop)(hK:K σ):Vr Tryz.prog 206 [.pointer (some ⟨b,0,none⟩)] .returning .returning σ K:=by
 refine UX [] [] .none Tryz.func206 rfl 4 rfl (by kernel_rfl) ?_
 rw [Tryz.ntmps206]
 try simp only [go_sem,seval,Gg]
 exact ⟨_,.refl _,hK⟩
theorem QX (b:Nat)(e e':Int)(σ:Store)(hb:σ.get b=some (.cells [.val (.int .i64 e)]))(K:Store→Prop)(hK:K (σ.set b (.cells [.val (.int .i64 e')]))) :
 Vr Tryz.prog 206 [.pointer (some ⟨b,0,none⟩)] (.panicking [{ v:=VY e',recovered:=false }]) (.panicking [{ v:=VY e',recovered:=true }]) σ K:=by
 refine UX [2] [] (.some _) Tryz.func206 rfl 4 rfl (by kernel_rfl) ?_
 rw [Tryz.ntmps206]
 try simp only [go_sem,seval,Gg,VY]
 intro b1 hb1
 have hne:=Zt hb1 hb
 try simp only [go_sem,seval,Gg,hne,hb]
 exact ⟨_,.cons _ _,hK⟩
theorem Ky (f:Value)(σ:Store)(R:ZO→Store→Prop)
 (h:∀ b,Zx σ b→ZX Tryz.prog (.val f) [] ((b,.cells [.val (.int .i64 0)])::σ) (fun r σ'=>∃ σ1,σ'=(b,.cells [.val (.int .i64 0)])::σ1∧match r with | .ret _=>R (.ret (.val (.int .i64 0))) σ1 | .pan pv=>∃ e,pv=VY e∧R (.ret (.val (.int .i64 e))) σ1)) :
 Zj Tryz.prog 156 [.val f] σ R:=by
 refine W3 Tryz.func156 rfl (by kernel_rfl) ?_
 rw [Tryz.ntmps156,Tryz.results156]
 refine .seq (.of (ZD (mu:=[2]) (dr:=[]) (by kernel_rfl) _ (by kernel_rfl) _ _ _ ?_))
 refine iO ?_
 intro b hb
 simp only [XL]
 refine .seq (.region (mu:=[]) (pre:=[_]) 3 (by kernel_rfl) (by kernel_rfl) (by decide) ?_)
 refine iO ?_
 refine ⟨_,_,rfl,?_⟩
 simp only [XL]
 refine .of (ZD (mu:=[]) (dr:=[]) (by kernel_rfl) _ (by kernel_rfl) _ _ _ ?_)
 refine iO ?_
 refine (h b hb).mono ?_
 rintro r _ ⟨σ1,rfl,hr⟩
 cases r with
 | ret v =>
   refine iO ?_
   simp only [Su]
   refine ⟨_,_,rfl,?_⟩
   refine QY b 0 _ (by simp [Store.get]) _ ?_
   refine iO ?_
   exact iL
 | pan pv =>
   obtain ⟨e,rfl,hr⟩:=hr
   refine iO ?_
   simp only [Sv]
   refine ⟨_,_,_,rfl,rfl,?_⟩
   refine QX b 0 e _ (by simp [Store.get]) _ ?_
   refine iO ?_
   exact iL
end Go.Vx
end
section
namespace Go.Vx
abbrev Str:=ByteArray
inductive Ty where
 | mk (name:Str) (args:List Ty)
inductive Tm where
 | mk (kind n:Int) (name:Str) (args:List Tm)
abbrev vi (n:Int):AV:=.val (.int .i64 n)
abbrev vb (b:Bool):AV:=.val (.bool b)
abbrev vs (s:Str):AV:=.val (.string s)
mutual
def Ty.emb:Ty→List AV
 | .mk s l=>[.val (.string s),.list .none 2 (cJ l)]
def cJ:List Ty→List (List AV)
 | []=>[]
 | t::r=>Ty.emb t::cJ r
end
mutual
def Tm.emb:Tm→List AV
 | .mk k n s l=>[.val (.int .i64 k),.val (.int .i64 n),.val (.string s),.list .none 4 (cH l)]
def cH:List Tm→List (List AV)
 | []=>[]
 | t::r=>Tm.emb t::cH r
end
theorem dw:∀ l:List Ty,cJ l=l.map Ty.emb
 | []=>rfl
 | t::r=>by simp [cJ,dw r]
theorem dg:∀ l:List Tm,cH l=l.map Tm.emb
 | []=>rfl
 | t::r=>by simp [cH,dg r]
theorem cj (l:List Ty):(cJ l).length=l.length:=by rw [dw];simp
theorem ci (l:List Tm):(cH l).length=l.length:=by rw [dg];simp
theorem cX {l:List Ty}{i:Nat}{c:List AV}(h:(cJ l)[i]?=some c):∃ t,l[i]?=some t∧c=t.emb:=by
 rw [dw,List.getElem?_map,Option.map_eq_some_iff] at h;obtain ⟨t,h1,h2⟩:=h;exact ⟨t,h1,h2.symm⟩
theorem cR {l:List Tm}{i:Nat}{c:List AV}(h:(cH l)[i]?=some c):∃ t,l[i]?=some t∧c=t.emb:=by
 rw [dg,List.getElem?_map,Option.map_eq_some_iff] at h;obtain ⟨t,h1,h2⟩:=h;exact ⟨t,h1,h2.symm⟩
theorem co (k n:Int)(s:Str)(l:List Tm):(Tm.mk k n s l).emb=[.val (.int .i64 k),.val (.int .i64 n),.val (.string s),.list .none 4 (cH l)]:=rfl
theorem cG (s:Str)(l:List Ty):(Ty.mk s l).emb=[.val (.string s),.list .none 2 (cJ l)]:=rfl
inductive Ro where
 | mk (l:List Ro)
def Ro.kids:Ro→List Ro
 | .mk l=>l
mutual
def Ty.shape:Ty→Ro
 | .mk _ l=>.mk (cY l)
def cY:List Ty→List Ro
 | []=>[]
 | t::r=>t.shape::cY r
end
mutual
def Tm.shape:Tm→Ro
 | .mk _ _ _ l=>.mk (cU l)
def cU:List Tm→List Ro
 | []=>[]
 | t::r=>t.shape::cU r
end
theorem dp:∀ l:List Ty,cY l=l.map Ty.shape
 | []=>rfl
 | t::r=>by simp [cY,dp r]
theorem dq:∀ l:List Tm,cU l=l.map Tm.shape
 | []=>rfl
 | t::r=>by simp [cU,dq r]
def Tm.kids:Tm→List Tm
 | .mk _ _ _ l=>l
def Ty.kids:Ty→List Ty
 | .mk _ l=>l
theorem dE {M:Tm→Prop}(h:∀ k n s l,(∀ t∈l,M t)→M (.mk k n s l)):∀ t,M t
 | .mk k n s l=>h k n s l (go l)
 where go:∀ l:List Tm,∀ t∈l,M t
 | [],_,ht=>absurd ht (by simp)
 | a::r,t,ht=>(List.mem_cons.1 ht).elim (fun e=>e ▸ dE h a) (fun hr=>go r t hr)
theorem dI {M:Ty→Prop}(h:∀ s l,(∀ t∈l,M t)→M (.mk s l)):∀ t,M t
 | .mk s l=>h s l (go l)
 where go:∀ l:List Ty,∀ t∈l,M t
 | [],_,ht=>absurd ht (by simp)
 | a::r,t,ht=>(List.mem_cons.1 ht).elim (fun e=>e ▸ dI h a) (fun hr=>go r t hr)
end Go.Vx
end
section
set_option maxRecDepth 100000
namespace Go.Vx
open Go.Proofs
theorem Jb:(True):=by
 first | trivial | kernel_rfl
theorem Bk:(True):=by
 first | trivial | kernel_rfl
theorem Pu (s:ByteArray)(c:Int)(σ:Store):Ext Tryz.prog 288 [.val (.string s),.val (.int .u8 c)] σ (.val (.int .i64 (Lib.indexByte s.data.toList c.toNat.toUInt8))):=by
 intro w vs hσ hv
 have h0:=hv.1
 have hvs:vs=#[.string s,.int .u8 c]:=by
  apply Array.ext'
  match vs,hv with
  | ⟨[x,y]⟩,hv =>
    have h1:=hv.2 0 _ x rfl rfl
    have h2:=hv.2 1 _ y rfl rfl
    cases h1;cases h2;rfl
  | ⟨[]⟩,hv=>exact absurd hv.1 (by simp)
  | ⟨[_]⟩,hv=>exact absurd hv.1 (by simp)
  | ⟨_::_::_::_⟩,hv=>exact absurd hv.1 (by simp)
 subst hvs
 refine ⟨_,?_,.val _⟩
 rw [run_callFunc_extern (fn:=Tryz.f288) (by rfl) (by kernel_rfl) (by kernel_rfl) (by kernel_rfl) (e:=Extern.BytealgIndexByte.indexByte) (by kernel_rfl),Lib.run_indexByteString]
 rfl
theorem Rl (s:ByteArray)(c:Int):Pur Tryz.prog 286 [vs s,.val (.int .u8 c)] (vi (Lib.indexByte s.data.toList c.toNat.toUInt8)):=by
 intro σ
 refine W3 Tryz.func286 rfl (by kernel_rfl) ?_
 rw [Tryz.ntmps286,Tryz.results286]
 refine .seq (.of (ZD (mu:=[]) (dr:=[]) (by kernel_rfl) _ (by kernel_rfl) _ _ _ ?_))
 try simp only [go_sem,seval,Jb]
 simp only [XL]
 refine .seq (.of (AWp.ext (mu:=[]) (pre:=[_,_]) (post:=[_]) 288 [5,6] (by kernel_rfl) ?_))
 try simp only [go_sem,seval,Jb]
 refine ⟨_,Pu s c σ,?_⟩
 try simp only [go_sem,seval,Jb,XL]
 refine .of (ZD (mu:=[]) (dr:=[]) (by kernel_rfl) _ (by kernel_rfl) _ _ _ ?_)
 try simp only [go_sem,seval,Jb]
 exact Zu
theorem S5 (s:ByteArray)(c:Int):Pur Tryz.prog 278 [vs s,.val (.int .u8 c)] (vi (Lib.indexByte s.data.toList c.toNat.toUInt8)):=by
 intro σ
 refine Zc [] [] Tryz.func278 rfl (by kernel_rfl) ?_;rw [Tryz.ntmps278,Tryz.results278]
 try simp only [go_sem,seval,Bk]
 refine (Rl s c).use ?_
 try simp only [go_sem,seval,Bk]
 exact Zu
end Go.Vx
end
section
set_option maxRecDepth 100000
namespace Go.Vx
open Go.Proofs
theorem aK:(True):=by
 first | trivial | kernel_rfl
theorem aI:(True):=by
 first | trivial | kernel_rfl
theorem aH:(Tryz.prog.underlying 9=some .string):=by
 first | trivial | kernel_rfl
theorem Bi:(True):=by
 first | trivial | kernel_rfl
theorem Jq (b:Int):Pur Tryz.prog 282 [.val (.int .u8 b)] (vb (decide (97≤b∧b≤122))):=by
 intro σ
 refine Zc [] [] Tryz.func282 rfl (by kernel_rfl) ?_;rw [Tryz.ntmps282,Tryz.results282]
 try simp only [go_sem,seval,aK]
 exact ⟨fun h=>ZC (by simp [h]),fun h=>ZC (by simp [h])⟩
theorem Hv (b:Int):Pur Tryz.prog 284 [.val (.int .u8 b)] (vb (decide (65≤b∧b≤90))):=by
 intro σ
 refine Zc [] [] Tryz.func284 rfl (by kernel_rfl) ?_;rw [Tryz.ntmps284,Tryz.results284]
 try simp only [go_sem,seval,aI]
 exact ⟨fun h=>ZC (by simp [h]),fun h=>ZC (by simp [h])⟩
def Xx (s p:Str):Prop:=p.size≤s.size∧s.extract 0 p.size=p
instance (s p:Str):Decidable (Xx s p):=by unfold Xx;exact inferInstance
theorem Ni (s p:Str):Pur Tryz.prog 287 [vs s,vs p] (vb (decide (Xx s p))):=by
 intro σ
 refine Zc [] [] Tryz.func287 rfl (by kernel_rfl) ?_;rw [Tryz.ntmps287,Tryz.results287]
 try simp only [go_sem,seval,aH]
 refine ⟨fun h=>⟨by omega,h,ZC ?_⟩,fun h=>ZC ?_⟩
 ·have:p.size≤s.size:=by omega
  simp [Xx,this]
 ·have:¬ p.size≤s.size:=by omega
  simp [Xx,this]
theorem Ve (s p:Str):Pur Tryz.prog 285 [vs s,vs p] (vb (decide (Xx s p))):=by
 intro σ
 refine Zc [] [] Tryz.func285 rfl (by kernel_rfl) ?_;rw [Tryz.ntmps285,Tryz.results285]
 try simp only [go_sem,seval,Bi]
 refine (Ni s p).use ?_
 try simp only [go_sem,seval,Bi]
 exact Zu
end Go.Vx
end
