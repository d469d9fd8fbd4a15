/- Part Q11 of the proof of treeCaughtProved: the walk of the program on abstract values, and the plain law. -/
import Derived.Test.YtmedmnondjmleaaGreatQ10
set_option linter.unusedVariables false
set_option linter.unusedSimpArgs false
namespace Go.Vx
theorem put_app (fr:Fr)(d:Nat)(v:AV)(i:Nat):(fr.put d v) i=if i=d then v else fr i:=rfl
theorem putO_some (fr:Fr)(d:Nat)(v:AV):fr.putO (some d) v=fr.put d v:=rfl
theorem putO_none (fr:Fr)(v:AV):fr.putO none v=fr:=rfl
theorem args_app (as:List AV)(i:Nat):Fr.args as i=as.getD i (.val undef):=rfl
theorem of_nil (i:Nat):Fr.of [] i=.any:=rfl
theorem of_cons (j:Nat)(v:AV)(l:List (Nat×AV))(i:Nat):Fr.of ((j,v)::l) i=if i=j then v else Fr.of l i:=rfl
theorem ev_tmp (fr:Fr)(t:Nat):fr.ev (.tmp t)=fr t:=rfl
theorem ev_const (fr:Fr)(v:Value):fr.ev (.const v)=AV.lift v:=rfl
theorem ev_global (fr:Fr)(g:Nat):fr.ev (.global g)=.val (.pointer (some ⟨g,0,none⟩)):=rfl
theorem ev_func (fr:Fr)(g:Nat):fr.ev (.func g)=.val (.func (.func g) #[] #[]):=rfl
theorem lift_int (k:IntKind)(n:Int):AV.lift (.int k n)=.val (.int k n):=rfl
theorem lift_bool (b:Bool):AV.lift (.bool b)=.val (.bool b):=rfl
theorem lift_string (s:ByteArray):AV.lift (.string s)=.val (.string s):=rfl
theorem lift_nilIface:AV.lift .nilIface=.val .nilIface:=rfl
theorem lift_nilFunc:AV.lift .nilFunc=.val .nilFunc:=rfl
theorem lift_slice:AV.lift (.slice none 0 0)=.list .full 0 []:=rfl
theorem lift_ptr (p:Option Addr):AV.lift (.pointer p)=.val (.pointer p):=rfl
theorem lift_agg (l:List Value):AV.lift (.agg ⟨l⟩)=.agg (l.map AV.lift1):=rfl
theorem lift1_int (k:IntKind)(n:Int):AV.lift1 (.int k n)=.val (.int k n):=rfl
theorem lift1_bool (b:Bool):AV.lift1 (.bool b)=.val (.bool b):=rfl
theorem lift1_string (s:ByteArray):AV.lift1 (.string s)=.val (.string s):=rfl
theorem lift1_slice:AV.lift1 (.slice none 0 0)=.list .full 0 []:=rfl
theorem lift1_nilFunc:AV.lift1 .nilFunc=.val .nilFunc:=rfl
theorem lift1_nilIface:AV.lift1 .nilIface=.val .nilIface:=rfl
theorem lift1_ptr (p:Option Addr):AV.lift1 (.pointer p)=.val (.pointer p):=rfl
theorem lift1_map (p:Option Nat):AV.lift1 (.map p)=.val (.map p):=rfl
theorem lift_map (p:Option Nat):AV.lift (.map p)=.val (.map p):=rfl
theorem zeroCs_agg (l:List Value):zeroCs (.agg ⟨l⟩)=l.map AV.lift1:=rfl
theorem zeroCs_int (k:IntKind)(n:Int):zeroCs (.int k n)=[.val (.int k n)]:=rfl
theorem zeroCs_bool (b:Bool):zeroCs (.bool b)=[.val (.bool b)]:=rfl
theorem zeroCs_string (s:ByteArray):zeroCs (.string s)=[.val (.string s)]:=rfl
theorem zeroCs_slice:zeroCs (.slice none 0 0)=[.list .full 0 []]:=rfl
theorem zeroCs_nilFunc:zeroCs .nilFunc=[.val .nilFunc]:=rfl
theorem zeroCs_nilIface:zeroCs .nilIface=[.val .nilIface]:=rfl
theorem zeroCs_ptr (p:Option Addr):zeroCs (.pointer p)=[.val (.pointer p)]:=rfl
theorem zeroCs_map (p:Option Nat):zeroCs (.map p)=[.val (.map p)]:=rfl
/-- The head,told by the table's word. -/
def adrK (P:Program)(mu:List Nat)(ops:Array Oper)(Q:Exit→Fr→Store→Prop)(σ:Store)(p:Nat×Nat)(l:List Oper)(fr:Fr):Prop:=adk P mu ops Q σ p.2 p.1 l fr
theorem adrK_mk (P:Program)(mu:List Nat)(ops:Array Oper)(Q:Exit→Fr→Store→Prop)(σ:Store)(m k:Nat)(l:List Oper)(fr:Fr):adrK P mu ops Q σ (m,k) l fr=adk P mu ops Q σ k m l fr:=propext Iff.rfl
theorem adk_lo (P:Program)(mu:List Nat)(ops:Array Oper)(Q:Exit→Fr→Store→Prop)(σ:Store)(m k:Nat)(l:List Oper)(fr:Fr)(h:k<3):adk P mu ops Q σ k m l fr=ahd P mu ops Q σ k m l fr:=by unfold adk;rw [if_neg (by omega)]
def oTrue:Store→Prop:=fun _=>True
theorem adk_hi (P:Program)(mu:List Nat)(ops:Array Oper)(Q:Exit→Fr→Store→Prop)(σ:Store)(m k:Nat)(l:List Oper)(fr:Fr)(h:2<k):adk P mu ops Q σ k m l fr=amid P mu ops Q σ (m-(k-3)-1) (k-3) l oTrue fr:=by unfold adk;rw [if_pos (by omega)];rfl
theorem oTrue_app (σ:Store):oTrue σ=True:=rfl
theorem amid_zero (P:Program)(mu:List Nat)(ops:Array Oper)(Q:Exit→Fr→Store→Prop)(σ:Store)(m:Nat)(d:Nat)(op:Op)(ty:TypeId)(pos:String)(af:Array Edge)(r:List Oper)(O:Store→Prop)(fr:Fr) :
    amid P mu ops Q σ m 0 (⟨some d,op,ty,pos,af,none⟩::r) O fr=astep P (mu.contains d) fr.ev σ (kMid P mu ops Q O m r fr (some d)) op:=by simp only [amid,true_and]
theorem amid_none (P:Program)(mu:List Nat)(ops:Array Oper)(Q:Exit→Fr→Store→Prop)(σ:Store)(m:Nat)(op:Op)(ty:TypeId)(pos:String)(af:Array Edge)(r:List Oper)(O:Store→Prop)(fr:Fr) :
    amid P mu ops Q σ m 0 (⟨none,op,ty,pos,af,none⟩::r) O fr=astep P false fr.ev σ (kMid P mu ops Q O m r fr none) op:=by simp only [amid,true_and]
theorem amid_succ (P:Program)(mu:List Nat)(ops:Array Oper)(Q:Exit→Fr→Store→Prop)(σ:Store)(m s:Nat)(d:Option Nat)(op:Op)(ty:TypeId)(pos:String)(af:Array Edge)(r:List Oper)(O:Store→Prop)(fr:Fr) :
    amid P mu ops Q σ m (s+1) (⟨d,op,ty,pos,af,none⟩::r) O fr=pstep P fr.ev σ (kOb P (amid P mu ops Q σ m s r) O fr d op) op:=by simp only [amid,true_and]
theorem kOb_app (P:Program)(k:(Store→Prop)→Fr→Prop)(O:Store→Prop)(fr:Fr)(d:Option Nat)(op:Op)(v:AV):kOb P k O fr d op v=k (oAnd P O fr op v) (fr.putO d v):=rfl
def eqV (v:AV):AV→Prop:=fun u=>u=v
theorem eqV_app (v u:AV):eqV v u=(u=v):=rfl
theorem oAnd_app (P:Program)(O:Store→Prop)(fr:Fr)(op:Op)(v:AV)(σ':Store):oAnd P O fr op v σ'=(O σ'∧pstep P fr.ev σ' (eqV v) op):=rfl
theorem kMid_ret (P:Program)(mu:List Nat)(ops:Array Oper)(Q:Exit→Fr→Store→Prop)(O:Store→Prop)(m:Nat)(r:List Oper)(fr:Fr)(d:Option Nat)(v:AV)(σ':Store):kMid P mu ops Q O m r fr d (.ret v) σ'=(O σ'∧ahd P mu ops Q σ' 0 m r (fr.putO d v)):=rfl
theorem kMid_pan (P:Program)(mu:List Nat)(ops:Array Oper)(Q:Exit→Fr→Store→Prop)(O:Store→Prop)(m:Nat)(r:List Oper)(fr:Fr)(d:Option Nat)(v:Value)(σ':Store):kMid P mu ops Q O m r fr d (.pan v) σ'=∀ fr',Q (.panic [{ v:=v,recovered:=false }]) fr' σ':=rfl
theorem drOf_cons (i m k:Nat)(r:List (Nat×Nat×Nat))(id:Nat):drOf ((i,m,k)::r) id=if i=id then (m,k) else drOf r id:=rfl
theorem ahd_zero (P:Program)(mu:List Nat)(ops:Array Oper)(Q:Exit→Fr→Store→Prop)(σ:Store)(k:Nat)(l:List Oper)(fr:Fr):ahd P mu ops Q σ k 0 l fr=kTail P mu ops Q σ l k fr:=propext Iff.rfl
theorem kTail_zero (P:Program)(mu:List Nat)(ops:Array Oper)(Q:Exit→Fr→Store→Prop)(σ:Store)(l:List Oper)(fr:Fr):kTail P mu ops Q σ l 0 fr=aops P mu ops l Q fr σ:=propext Iff.rfl
theorem kTail_one (P:Program)(mu:List Nat)(ops:Array Oper)(Q:Exit→Fr→Store→Prop)(σ:Store)(l:List Oper)(fr:Fr):kTail P mu ops Q σ l 1 fr=aeff P mu ops false Q σ l fr:=propext Iff.rfl
theorem kTail_two (P:Program)(mu:List Nat)(ops:Array Oper)(Q:Exit→Fr→Store→Prop)(σ:Store)(l:List Oper)(fr:Fr):kTail P mu ops Q σ l 2 fr=aeff P mu ops true Q σ l fr:=propext Iff.rfl
theorem ahd_one (P:Program)(mu:List Nat)(ops:Array Oper)(Q:Exit→Fr→Store→Prop)(σ:Store)(k m:Nat)(d:Option Nat)(op:Op)(ty:TypeId)(pos:String)(af:Array Edge)(r:List Oper)(fr:Fr) :
    ahd P mu ops Q σ k (m+1) (⟨d,op,ty,pos,af,none⟩::r) fr=pstep P fr.ev σ (kPs (ahd P mu ops Q σ k m r) fr d) op:=propext Iff.rfl
theorem ahd_grd (P:Program)(mu:List Nat)(ops:Array Oper)(Q:Exit→Fr→Store→Prop)(σ:Store)(k m:Nat)(d:Option Nat)(op:Op)(ty:TypeId)(pos:String)(af:Array Edge)(g:Nat×Bool)(r:List Oper)(fr:Fr) :
    ahd P mu ops Q σ k (m+1) (⟨d,op,ty,pos,af,some g⟩::r) fr=aguard ops (some g) fr (hOne P (ahd P mu ops Q σ k m r) σ ⟨d,op,ty,pos,af,some g⟩) (hSkip (ahd P mu ops Q σ k m r) d):=propext Iff.rfl
theorem hOne_app (P:Program)(k:Fr→Prop)(σ:Store)(d:Option Nat)(op:Op)(ty:TypeId)(pos:String)(af:Array Edge)(g:Option (Nat×Bool))(fr:Fr):hOne P k σ ⟨d,op,ty,pos,af,g⟩ fr=pstep P fr.ev σ (kPs k fr d) op:=propext Iff.rfl
theorem hSkip_app (k:Fr→Prop)(d:Option Nat)(fr:Fr):hSkip k d fr=k (fr.putO d (.val undef)):=propext Iff.rfl
theorem kPs_app (k:Fr→Prop)(fr:Fr)(d:Option Nat)(v:AV):kPs k fr d v=k (fr.putO d v):=propext Iff.rfl
theorem aeff_one (P:Program)(mu:List Nat)(ops:Array Oper)(fb:Bool)(Q:Exit→Fr→Store→Prop)(σ:Store)(d:Option Nat)(op:Op)(ty:TypeId)(pos:String)(af:Array Edge)(r:List Oper)(fr:Fr) :
    aeff P mu ops fb Q σ (⟨d,op,ty,pos,af,none⟩::r) fr=hEff P mu (aops P mu ops r) Q fb σ ⟨d,op,ty,pos,af,none⟩ fr:=propext Iff.rfl
theorem aeff_grd (P:Program)(mu:List Nat)(ops:Array Oper)(fb:Bool)(Q:Exit→Fr→Store→Prop)(σ:Store)(d:Option Nat)(op:Op)(ty:TypeId)(pos:String)(af:Array Edge)(g:Nat×Bool)(r:List Oper)(fr:Fr) :
    aeff P mu ops fb Q σ (⟨d,op,ty,pos,af,some g⟩::r) fr=aguard ops (some g) fr (hEff P mu (aops P mu ops r) Q fb σ ⟨d,op,ty,pos,af,some g⟩) (hEnd (aops P mu ops r) Q σ d):=propext Iff.rfl
theorem hEff_some (P:Program)(mu:List Nat)(k:((Exit→Fr→Store→Prop)→Fr→Store→Prop))(Q:Exit→Fr→Store→Prop)(fb:Bool)(σ:Store)(d:Nat)(op:Op)(ty:TypeId)(pos:String)(af:Array Edge)(g:Option (Nat×Bool))(fr:Fr) :
    hEff P mu k Q fb σ ⟨some d,op,ty,pos,af,g⟩ fr=astep P (mu.contains d) fr.ev σ (kEff k Q fb fr (some d) σ) op:=propext Iff.rfl
theorem hEff_none (P:Program)(mu:List Nat)(k:((Exit→Fr→Store→Prop)→Fr→Store→Prop))(Q:Exit→Fr→Store→Prop)(fb:Bool)(σ:Store)(op:Op)(ty:TypeId)(pos:String)(af:Array Edge)(g:Option (Nat×Bool))(fr:Fr) :
    hEff P mu k Q fb σ ⟨none,op,ty,pos,af,g⟩ fr=astep P false fr.ev σ (kEff k Q fb fr none σ) op:=propext Iff.rfl
theorem kEff_ret (k:((Exit→Fr→Store→Prop)→Fr→Store→Prop))(Q:Exit→Fr→Store→Prop)(fb:Bool)(fr:Fr)(d:Option Nat)(σ σ':Store)(v:AV):kEff k Q fb fr d σ (.ret v) σ'=((fb=true∨Sees σ σ')∧k Q (fr.putO d v) σ'):=propext Iff.rfl
theorem kEff_pan (k:((Exit→Fr→Store→Prop)→Fr→Store→Prop))(Q:Exit→Fr→Store→Prop)(fb:Bool)(fr:Fr)(d:Option Nat)(σ σ':Store)(v:Value):kEff k Q fb fr d σ (.pan v) σ'=False:=propext Iff.rfl
theorem hEnd_app (k:((Exit→Fr→Store→Prop)→Fr→Store→Prop))(Q:Exit→Fr→Store→Prop)(σ:Store)(d:Option Nat)(fr:Fr):hEnd k Q σ d fr=k Q (fr.putO d (.val undef)) σ:=propext Iff.rfl
theorem sees_self (σ:Store):Sees σ σ=True:=eq_true (.refl σ)
theorem avc_skip (P:Program)(n:Nat)(ds:List Deferred)(mu:List Nat)(dr:List (Nat×Nat×Nat))(Q:Exit→Fr→Store→Prop)(fr:Fr)(σ:Store):avc P n ds mu dr .skip Q fr σ=Q .normal fr σ:=propext Iff.rfl
theorem avc_region (P:Program)(n:Nat)(ds:List Deferred)(mu:List Nat)(dr:List (Nat×Nat×Nat))(id:Nat)(l:List Oper)(Q:Exit→Fr→Store→Prop)(fr:Fr)(σ:Store):avc P n ds mu dr (.region id ⟨l⟩ false) Q fr σ=aops P mu ⟨l⟩ l Q fr σ:=propext Iff.rfl
theorem avc_draw (P:Program)(n:Nat)(ds:List Deferred)(mu:List Nat)(dr:List (Nat×Nat×Nat))(id:Nat)(l:List Oper)(Q:Exit→Fr→Store→Prop)(fr:Fr)(σ:Store):avc P n ds mu dr (.region id ⟨l⟩ true) Q fr σ=adrK P mu ⟨l⟩ Q σ (drOf dr id) l fr:=propext Iff.rfl
def sqA (P:Program)(n:Nat)(ds:List Deferred)(mu:List Nat)(dr:List (Nat×Nat×Nat))(r:Nat×Nat)(a b:Code)(Q:Exit→Fr→Store→Prop)(fr:Fr)(σ:Store):Prop :=
  if 1000≤r.1 then AWp P n ds (.seq a b) Q fr σ else avc P n ds mu dr a (kSeq (avc P n ds mu dr b) Q) fr σ
theorem sqA_t (P:Program)(n:Nat)(ds:List Deferred)(mu:List Nat)(dr:List (Nat×Nat×Nat))(m k:Nat)(a b:Code)(Q:Exit→Fr→Store→Prop)(fr:Fr)(σ:Store)(h:999<m):sqA P n ds mu dr (m,k) a b Q fr σ=AWp P n ds (.seq a b) Q fr σ:=by unfold sqA;rw [if_pos (by simp only;omega)]
theorem sqA_f (P:Program)(n:Nat)(ds:List Deferred)(mu:List Nat)(dr:List (Nat×Nat×Nat))(m k:Nat)(a b:Code)(Q:Exit→Fr→Store→Prop)(fr:Fr)(σ:Store)(h:m<1000):sqA P n ds mu dr (m,k) a b Q fr σ=avc P n ds mu dr a (kSeq (avc P n ds mu dr b) Q) fr σ:=by unfold sqA;rw [if_neg (by simp only;omega)]
theorem avc_seqf (P:Program)(n:Nat)(ds:List Deferred)(mu:List Nat)(dr:List (Nat×Nat×Nat))(a b:Code)(Q:Exit→Fr→Store→Prop)(fr:Fr)(σ:Store)(h:rawB dr a=false):avc P n ds mu dr (.seq a b) Q fr σ=avc P n ds mu dr a (kSeq (avc P n ds mu dr b) Q) fr σ:=by simp only [avc,h,Bool.false_eq_true,if_false]
theorem avc_seqt (P:Program)(n:Nat)(ds:List Deferred)(mu:List Nat)(dr:List (Nat×Nat×Nat))(id:Nat)(l:Array Oper)(b:Code)(Q:Exit→Fr→Store→Prop)(fr:Fr)(σ:Store):avc P n ds mu dr (.seq (.region id l true) b) Q fr σ=sqA P n ds mu dr (drOf dr id) (.region id l true) b Q fr σ:=by
  by_cases h:1000≤(drOf dr id).1
  · unfold sqA;rw [if_pos h];simp only [avc,rawB,decide_eq_true h,if_true]
  · unfold sqA;rw [if_neg h];exact avc_seqf _ _ _ _ _ _ _ _ _ _ (by simp only [rawB];exact decide_eq_false h)
theorem avc_s0 (P:Program)(n:Nat)(ds:List Deferred)(mu:List Nat)(dr:List (Nat×Nat×Nat))(id:Nat)(l:Array Oper)(b:Code)(Q:Exit→Fr→Store→Prop)(fr:Fr)(σ:Store):avc P n ds mu dr (.seq (.region id l false) b) Q fr σ=avc P n ds mu dr (.region id l false) (kSeq (avc P n ds mu dr b) Q) fr σ:=avc_seqf _ _ _ _ _ _ _ _ _ _ rfl
theorem avc_s1 (P:Program)(n:Nat)(ds:List Deferred)(mu:List Nat)(dr:List (Nat×Nat×Nat))(x y b:Code)(Q:Exit→Fr→Store→Prop)(fr:Fr)(σ:Store):avc P n ds mu dr (.seq (.seq x y) b) Q fr σ=avc P n ds mu dr (.seq x y) (kSeq (avc P n ds mu dr b) Q) fr σ:=avc_seqf _ _ _ _ _ _ _ _ _ _ rfl
theorem avc_s2 (P:Program)(n:Nat)(ds:List Deferred)(mu:List Nat)(dr:List (Nat×Nat×Nat))(c:Operand)(x y b:Code)(Q:Exit→Fr→Store→Prop)(fr:Fr)(σ:Store):avc P n ds mu dr (.seq (.cond c x y) b) Q fr σ=avc P n ds mu dr (.cond c x y) (kSeq (avc P n ds mu dr b) Q) fr σ:=avc_seqf _ _ _ _ _ _ _ _ _ _ rfl
theorem avc_s3 (P:Program)(n:Nat)(ds:List Deferred)(mu:List Nat)(dr:List (Nat×Nat×Nat))(i:Nat)(x b:Code)(Q:Exit→Fr→Store→Prop)(fr:Fr)(σ:Store):avc P n ds mu dr (.seq (.block i x) b) Q fr σ=avc P n ds mu dr (.block i x) (kSeq (avc P n ds mu dr b) Q) fr σ:=avc_seqf _ _ _ _ _ _ _ _ _ _ rfl
theorem avc_s4 (P:Program)(n:Nat)(ds:List Deferred)(mu:List Nat)(dr:List (Nat×Nat×Nat))(x b:Code)(Q:Exit→Fr→Store→Prop)(fr:Fr)(σ:Store):avc P n ds mu dr (.seq (.loop x) b) Q fr σ=avc P n ds mu dr (.loop x) (kSeq (avc P n ds mu dr b) Q) fr σ:=avc_seqf _ _ _ _ _ _ _ _ _ _ rfl
theorem avc_s5 (P:Program)(n:Nat)(ds:List Deferred)(mu:List Nat)(dr:List (Nat×Nat×Nat))(b:Code)(Q:Exit→Fr→Store→Prop)(fr:Fr)(σ:Store):avc P n ds mu dr (.seq .skip b) Q fr σ=avc P n ds mu dr .skip (kSeq (avc P n ds mu dr b) Q) fr σ:=avc_seqf _ _ _ _ _ _ _ _ _ _ rfl
theorem avc_cond (P:Program)(n:Nat)(ds:List Deferred)(mu:List Nat)(dr:List (Nat×Nat×Nat))(c:Operand)(a b:Code)(Q:Exit→Fr→Store→Prop)(fr:Fr)(σ:Store):avc P n ds mu dr (.cond c a b) Q fr σ=acond (fr.ev c) (avc P n ds mu dr a) (avc P n ds mu dr b) Q fr σ:=propext Iff.rfl
theorem avc_block (P:Program)(n:Nat)(ds:List Deferred)(mu:List Nat)(dr:List (Nat×Nat×Nat))(id:Nat)(a:Code)(Q:Exit→Fr→Store→Prop)(fr:Fr)(σ:Store):avc P n ds mu dr (.block id a) Q fr σ=avc P n ds mu dr a (kBlock id Q) fr σ:=propext Iff.rfl
theorem avc_loop (P:Program)(n:Nat)(ds:List Deferred)(mu:List Nat)(dr:List (Nat×Nat×Nat))(a:Code)(Q:Exit→Fr→Store→Prop)(fr:Fr)(σ:Store):avc P n ds mu dr (.loop a) Q fr σ=AWp P n ds (.loop a) Q fr σ:=propext Iff.rfl
theorem avc_exit (P:Program)(n:Nat)(ds:List Deferred)(mu:List Nat)(dr:List (Nat×Nat×Nat))(id:Nat)(Q:Exit→Fr→Store→Prop)(fr:Fr)(σ:Store):avc P n ds mu dr (.exit id) Q fr σ=Q (.exit id) fr σ:=propext Iff.rfl
theorem avc_ret (P:Program)(n:Nat)(ds:List Deferred)(mu:List Nat)(dr:List (Nat×Nat×Nat))(Q:Exit→Fr→Store→Prop)(fr:Fr)(σ:Store):avc P n ds mu dr .ret Q fr σ=Q .ret fr σ:=propext Iff.rfl
theorem aguard_none (ops:Array Oper)(fr:Fr)(A B:Fr→Prop):aguard ops none fr A B=A fr:=propext Iff.rfl
theorem kOp_ret (k:((Exit→Fr→Store→Prop)→Fr→Store→Prop))(Q:Exit→Fr→Store→Prop)(fr:Fr)(d:Option Nat)(v:AV)(σ:Store):kOp k Q fr d (.ret v) σ=k Q (fr.putO d v) σ:=propext Iff.rfl
theorem kOp_pan (k:((Exit→Fr→Store→Prop)→Fr→Store→Prop))(Q:Exit→Fr→Store→Prop)(fr:Fr)(d:Option Nat)(v:Value)(σ:Store):kOp k Q fr d (.pan v) σ=Q (.panic [{ v:=v,recovered:=false }]) fr σ:=propext Iff.rfl
theorem kSeq_normal (k:((Exit→Fr→Store→Prop)→Fr→Store→Prop))(Q:Exit→Fr→Store→Prop)(fr:Fr)(σ:Store):kSeq k Q .normal fr σ=k Q fr σ:=propext Iff.rfl
theorem kSeq_ret (k:((Exit→Fr→Store→Prop)→Fr→Store→Prop))(Q:Exit→Fr→Store→Prop)(fr:Fr)(σ:Store):kSeq k Q .ret fr σ=Q .ret fr σ:=propext Iff.rfl
theorem kSeq_exit (k:((Exit→Fr→Store→Prop)→Fr→Store→Prop))(Q:Exit→Fr→Store→Prop)(i:Nat)(fr:Fr)(σ:Store):kSeq k Q (.exit i) fr σ=Q (.exit i) fr σ:=propext Iff.rfl
theorem kSeq_panic (k:((Exit→Fr→Store→Prop)→Fr→Store→Prop))(Q:Exit→Fr→Store→Prop)(c:List PanicEntry)(fr:Fr)(σ:Store):kSeq k Q (.panic c) fr σ=Q (.panic c) fr σ:=propext Iff.rfl
theorem kBlock_normal (id:Nat)(Q:Exit→Fr→Store→Prop)(fr:Fr)(σ:Store):kBlock id Q .normal fr σ=Q .normal fr σ:=propext Iff.rfl
theorem kBlock_ret (id:Nat)(Q:Exit→Fr→Store→Prop)(fr:Fr)(σ:Store):kBlock id Q .ret fr σ=Q .ret fr σ:=propext Iff.rfl
theorem kBlock_exit (id:Nat)(Q:Exit→Fr→Store→Prop)(i:Nat)(fr:Fr)(σ:Store):kBlock id Q (.exit i) fr σ=if i=id then Q .normal fr σ else Q (.exit i) fr σ:=propext Iff.rfl
theorem kBlock_panic (id:Nat)(Q:Exit→Fr→Store→Prop)(c:List PanicEntry)(fr:Fr)(σ:Store):kBlock id Q (.panic c) fr σ=Q (.panic c) fr σ:=propext Iff.rfl
theorem kBody_normal (P:Program)(rs:List ResultVar)(R:ARes→Store→Prop)(fr:Fr)(σ:Store):kBody P rs R .normal fr σ=ares P rs fr σ fun l=>AEnd R (AV.ofRes l) σ:=propext Iff.rfl
theorem kBody_ret (P:Program)(rs:List ResultVar)(R:ARes→Store→Prop)(fr:Fr)(σ:Store):kBody P rs R .ret fr σ=ares P rs fr σ fun l=>AEnd R (AV.ofRes l) σ:=propext Iff.rfl
theorem kBody_panic (P:Program)(rs:List ResultVar)(R:ARes→Store→Prop)(pv:Value)(fr:Fr)(σ:Store):kBody P rs R (.panic [{ v:=pv,recovered:=false }]) fr σ=APan R pv σ:=by
  simp only [kBody,eq_iff_iff]
  constructor
  · rintro ⟨x,hx,h⟩
    injection hx with hx _
    injection hx with hx
    subst hx
    exact h
  · intro h;exact ⟨_,rfl,h⟩
theorem acond_true (A B:((Exit→Fr→Store→Prop)→Fr→Store→Prop))(Q:Exit→Fr→Store→Prop)(fr:Fr)(σ:Store):acond (.val (.bool true)) A B Q fr σ=A Q fr σ:=by simp [acond]
theorem acond_false (A B:((Exit→Fr→Store→Prop)→Fr→Store→Prop))(Q:Exit→Fr→Store→Prop)(fr:Fr)(σ:Store):acond (.val (.bool false)) A B Q fr σ=B Q fr σ:=by simp [acond]
theorem acond_dec (p:Prop)[Decidable p](A B:((Exit→Fr→Store→Prop)→Fr→Store→Prop))(Q:Exit→Fr→Store→Prop)(fr:Fr)(σ:Store):acond (.val (.bool (decide p))) A B Q fr σ=((p→A Q fr σ)∧(¬ p→B Q fr σ)):=by simp [acond]
theorem acond_ndec (p:Prop)[Decidable p](A B:((Exit→Fr→Store→Prop)→Fr→Store→Prop))(Q:Exit→Fr→Store→Prop)(fr:Fr)(σ:Store):acond (.val (.bool (!decide p))) A B Q fr σ=((¬ p→A Q fr σ)∧(p→B Q fr σ)):=by simp [acond]
theorem kRet_app (K:ARes→Store→Prop)(σ:Store)(v:AV):kRet K σ v=K (.ret v) σ:=propext Iff.rfl
theorem kSto_app (K:ARes→Store→Prop)(σ:Store):kSto K σ=K (.ret .any) σ:=propext Iff.rfl
theorem kRs_app (K:ARes→Store→Prop)(v:AV)(σ:Store):kRs K v σ=K (.ret v) σ:=propext Iff.rfl
theorem kSkip_app (k:((Exit→Fr→Store→Prop)→Fr→Store→Prop))(Q:Exit→Fr→Store→Prop)(σ:Store)(d:Option Nat)(fr:Fr):kSkip k Q σ d fr=k Q (fr.putO d (.val undef)) σ:=propext Iff.rfl
theorem kDo_some (P:Program)(mu:List Nat)(k:((Exit→Fr→Store→Prop)→Fr→Store→Prop))(Q:Exit→Fr→Store→Prop)(σ:Store)(d:Nat)(op:Op)(ty:TypeId)(pos:String)(af:Array Edge)(g:Option (Nat×Bool))(fr:Fr) :
    kDo P mu k Q σ ⟨some d,op,ty,pos,af,g⟩ fr=astep P (mu.contains d) fr.ev σ (kOp k Q fr (some d)) op:=propext Iff.rfl
theorem kDo_none (P:Program)(mu:List Nat)(k:((Exit→Fr→Store→Prop)→Fr→Store→Prop))(Q:Exit→Fr→Store→Prop)(σ:Store)(op:Op)(ty:TypeId)(pos:String)(af:Array Edge)(g:Option (Nat×Bool))(fr:Fr) :
    kDo P mu k Q σ ⟨none,op,ty,pos,af,g⟩ fr=astep P false fr.ev σ (kOp k Q fr none) op:=propext Iff.rfl
theorem aops_nil (P:Program)(mu:List Nat)(ops:Array Oper)(Q:Exit→Fr→Store→Prop)(fr:Fr)(σ:Store):aops P mu ops [] Q fr σ=Q .normal fr σ:=propext Iff.rfl
theorem aops_one (P:Program)(mu:List Nat)(ops:Array Oper)(r:List Oper)(Q:Exit→Fr→Store→Prop)(d:Option Nat)(op:Op)(ty:TypeId)(pos:String)(af:Array Edge)(fr:Fr)(σ:Store) :
    aops P mu ops (⟨d,op,ty,pos,af,none⟩::r) Q fr σ=kDo P mu (aops P mu ops r) Q σ ⟨d,op,ty,pos,af,none⟩ fr:=propext Iff.rfl
theorem aops_grd (P:Program)(mu:List Nat)(ops:Array Oper)(r:List Oper)(Q:Exit→Fr→Store→Prop)(d:Option Nat)(op:Op)(ty:TypeId)(pos:String)(af:Array Edge)(g:Nat×Bool)(fr:Fr)(σ:Store) :
    aops P mu ops (⟨d,op,ty,pos,af,some g⟩::r) Q fr σ=aguard ops (some g) fr (kDo P mu (aops P mu ops r) Q σ ⟨d,op,ty,pos,af,some g⟩) (kSkip (aops P mu ops r) Q σ d):=propext Iff.rfl
theorem ares_nil (P:Program)(fr:Fr)(σ:Store)(K:List AV→Prop):ares P [] fr σ K=K []:=propext Iff.rfl
theorem ares_tmp (P:Program)(t:Nat)(r:List ResultVar)(fr:Fr)(σ:Store)(K:List AV→Prop):ares P (.tmp t::r) fr σ K=ares P r fr σ fun l=>K (fr t::l):=propext Iff.rfl
theorem ares_cell (P:Program)(a T:Nat)(r:List ResultVar)(fr:Fr)(σ:Store)(K:List AV→Prop):ares P (.cell a T::r) fr σ K=aload P T (fr a) σ fun v=>ares P r fr σ fun l=>K (v::l):=propext Iff.rfl
theorem ofRes_one (v:AV):AV.ofRes [v]=v:=rfl
theorem ofRes_nil:AV.ofRes []=.tup []:=rfl
theorem ofRes_two (a b:AV)(l:List AV):AV.ofRes (a::b::l)=.tup (a::b::l):=rfl
theorem cells_int (k:IntKind)(n:Int):AV.cells (.val (.int k n))=some [.val (.int k n)]:=rfl
theorem cells_bool (b:Bool):AV.cells (.val (.bool b))=some [.val (.bool b)]:=rfl
theorem cells_string (s:ByteArray):AV.cells (.val (.string s))=some [.val (.string s)]:=rfl
theorem cells_ptr (p:Option Addr):AV.cells (.val (.pointer p))=some [.val (.pointer p)]:=rfl
theorem cells_map (p:Option Nat):AV.cells (.val (.map p))=some [.val (.map p)]:=rfl
theorem cells_func (f:Fn)(a b:Array Value):AV.cells (.val (.func f a b))=some [.val (.func f a b)]:=rfl
theorem cells_nilFunc:AV.cells (.val .nilFunc)=some [.val .nilFunc]:=rfl
theorem cells_iface (t:Nat)(v:Value):AV.cells (.val (.iface t v))=some [.val (.iface t v)]:=rfl
theorem cells_nilIface:AV.cells (.val .nilIface)=some [.val .nilIface]:=rfl
theorem cells_slice (a:Option Addr)(n c:Nat):AV.cells (.val (.slice a n c))=some [.val (.slice a n c)]:=rfl
theorem cells_list (r:Rt)(s:Nat)(es:List (List AV)):AV.cells (.list r s es)=some [.list r s es]:=rfl
theorem cells_ro (cs:List AV):AV.cells (.ro cs)=some [.ro cs]:=rfl
theorem cells_agg (cs:List AV):AV.cells (.agg cs)=some cs:=rfl
theorem one_int (k:IntKind)(n:Int):AV.one (.val (.int k n))=true:=rfl
theorem one_bool (b:Bool):AV.one (.val (.bool b))=true:=rfl
theorem one_string (s:ByteArray):AV.one (.val (.string s))=true:=rfl
theorem one_ptr (p:Option Addr):AV.one (.val (.pointer p))=true:=rfl
theorem one_map (p:Option Nat):AV.one (.val (.map p))=true:=rfl
theorem one_func (f:Fn)(a b:Array Value):AV.one (.val (.func f a b))=true:=rfl
theorem one_nilFunc:AV.one (.val .nilFunc)=true:=rfl
theorem one_iface (t:Nat)(v:Value):AV.one (.val (.iface t v))=true:=rfl
theorem one_nilIface:AV.one (.val .nilIface)=true:=rfl
theorem one_slice (a:Option Addr)(n c:Nat):AV.one (.val (.slice a n c))=true:=rfl
theorem one_list (r:Rt)(s:Nat)(es:List (List AV)):AV.one (.list r s es)=true:=rfl
theorem one_ro (cs:List AV):AV.one (.ro cs)=true:=rfl
def memB (d:Nat):List Nat→Bool
  | []=>false
  | x::r=>if d=x then true else memB d r
theorem contains_memB (l:List Nat)(d:Nat):l.contains d=memB d l:=by
  induction l with
  | nil=>rfl
  | cons x r ih=>simp only [List.contains_cons,ih,memB];split<;>simp_all
theorem abox_mu (cs:List AV)(σ:Store)(K:ARes→Store→Prop):abox true cs σ K=∀ b,Fresh σ b→K (.ret (.val (.pointer (some ⟨b,0,none⟩)))) ((b,.cells cs)::σ):=propext Iff.rfl
theorem abox_ro (cs:List AV)(σ:Store)(K:ARes→Store→Prop):abox false cs σ K=(cs.all AV.one=true∧K (.ret (.ro cs)) σ):=propext Iff.rfl
theorem get_same (b:Nat)(x:AObj)(r:Store):Store.get ((b,x)::r) b=some x:=by simp [Store.get]
theorem get_other {b' b:Nat}(h:b'≠b)(x:AObj)(r:Store):Store.get ((b',x)::r) b=Store.get r b:=by simp only [Store.get];rw [if_neg h]
theorem get_fresh {b b':Nat}{r:Store}(h:Fresh r b)(g:(Store.get r b').isSome=true)(x:AObj):Store.get ((b,x)::r) b'=Store.get r b' :=
  get_other (fun e=>by rw [← e,fresh_get h] at g;cases g) x r
theorem set_same (b:Nat)(x y:AObj)(r:Store):Store.set ((b,x)::r) b y=(b,y)::r:=by simp [Store.set]
theorem set_other {b' b:Nat}(h:b'≠b)(x y:AObj)(r:Store):Store.set ((b',x)::r) b y=(b',x)::Store.set r b y:=by simp only [Store.set];rw [if_neg h]
theorem set_fresh {b b':Nat}{r:Store}(h:Fresh r b)(g:(Store.get r b').isSome=true)(x y:AObj):Store.set ((b,x)::r) b' y=(b,x)::Store.set r b' y :=
  set_other (fun e=>by rw [← e,fresh_get h] at g;cases g) x y r
theorem del_cons (b':Nat)(x:AObj)(r:Store)(b:Nat):Store.del ((b',x)::r) b=if b'=b then r else (b',x)::Store.del r b:=rfl
/-! ### guards -/
def gSlot (x:AV)(want:Bool)(A B:Fr→Prop)(fr:Fr)(d:Nat):Prop :=
  match x with
  | .val (.bool x)=>(x=want→A (fr.put d (.val (.bool want))))∧(x=(!want)→B (fr.put d (.val (.bool (!want)))))
  | .val (.tuple ⟨[]⟩)=>B fr
  | _=>False
def gAt (s:Option Nat)(want:Bool)(A B:Fr→Prop)(fr:Fr):Prop :=
  match s with
  | some d=>gSlot (fr d) want A B fr d
  | none=>False
theorem aguard_eq (ops:Array Oper)(j:Nat)(want:Bool)(fr:Fr)(A B:Fr→Prop):aguard ops (some (j,want)) fr A B=gAt ((ops[j]?).bind (·.dst)) want A B fr:=propext Iff.rfl
theorem gAt_some (d:Nat)(want:Bool)(A B:Fr→Prop)(fr:Fr):gAt (some d) want A B fr=gSlot (fr d) want A B fr d:=propext Iff.rfl
theorem gSlot_undef (want:Bool)(A B:Fr→Prop)(fr:Fr)(d:Nat):gSlot (.val undef) want A B fr d=B fr:=propext Iff.rfl
theorem gSlot_tt (A B:Fr→Prop)(fr:Fr)(d:Nat):gSlot (.val (.bool true)) true A B fr d=A (fr.put d (.val (.bool true))):=by simp [gSlot]
theorem gSlot_ff (A B:Fr→Prop)(fr:Fr)(d:Nat):gSlot (.val (.bool false)) false A B fr d=A (fr.put d (.val (.bool false))):=by simp [gSlot]
theorem gSlot_tf (A B:Fr→Prop)(fr:Fr)(d:Nat):gSlot (.val (.bool true)) false A B fr d=B (fr.put d (.val (.bool true))):=by simp [gSlot]
theorem gSlot_ft (A B:Fr→Prop)(fr:Fr)(d:Nat):gSlot (.val (.bool false)) true A B fr d=B (fr.put d (.val (.bool false))):=by simp [gSlot]
theorem gSlot_dt (p:Prop)[Decidable p](A B:Fr→Prop)(fr:Fr)(d:Nat):gSlot (.val (.bool (decide p))) true A B fr d=((p→A (fr.put d (.val (.bool true))))∧(¬ p→B (fr.put d (.val (.bool false))))):=by simp [gSlot]
theorem gSlot_df (p:Prop)[Decidable p](A B:Fr→Prop)(fr:Fr)(d:Nat):gSlot (.val (.bool (decide p))) false A B fr d=((¬ p→A (fr.put d (.val (.bool false))))∧(p→B (fr.put d (.val (.bool true))))):=by simp [gSlot]
theorem gSlot_nt (p:Prop)[Decidable p](A B:Fr→Prop)(fr:Fr)(d:Nat):gSlot (.val (.bool (!decide p))) true A B fr d=((¬ p→A (fr.put d (.val (.bool true))))∧(p→B (fr.put d (.val (.bool false))))):=by simp [gSlot]
theorem gSlot_nf (p:Prop)[Decidable p](A B:Fr→Prop)(fr:Fr)(d:Nat):gSlot (.val (.bool (!decide p))) false A B fr d=((p→A (fr.put d (.val (.bool false))))∧(¬ p→B (fr.put d (.val (.bool true))))):=by simp [gSlot]
/-! ### the operations,by the shapes of what they take -/
def oK (o:Option AV)(K:AV→Prop):Prop :=
  match o with
  | some v=>K v
  | none=>False
theorem oK_some (v:AV)(K:AV→Prop):oK (some v) K=K v:=propext Iff.rfl
def lK (P:Program)(T:TypeId)(o:Nat)(x:Option AObj)(K:AV→Prop):Prop :=
  match x with
  | some (.cells cs)=>oK (apick P T (cs.drop o)) K
  | _=>False
theorem lK_cells (P:Program)(T:TypeId)(o:Nat)(cs:List AV)(K:AV→Prop):lK P T o (some (.cells cs)) K=oK (apick P T (cs.drop o)) K:=propext Iff.rfl
theorem aload_ro (P:Program)(T:TypeId)(cs:List AV)(σ:Store)(K:AV→Prop):aload P T (.ro cs) σ K=oK (apick P T cs) K:=by unfold aload oK;rfl
theorem aload_ptr (P:Program)(T:TypeId)(b o:Nat)(σ:Store)(K:AV→Prop):aload P T (.val (.pointer (some ⟨b,o,none⟩))) σ K=lK P T o (σ.get b) K:=by
  simp only [aload,lK];generalize σ.get b=q;cases q with
  | none=>rfl
  | some x=>cases x<;>first | rfl | (simp only [oK];rfl)
def stK (vs:Option (List AV))(n:Option Nat)(x:Option AObj)(b o:Nat)(σ:Store)(K:Store→Prop):Prop :=
  match vs,n,x with
  | some vs,some n,some (.cells cs)=>vs.length=n∧vs.all AV.one=true∧o+n≤cs.length∧K (σ.set b (.cells (splice cs o vs)))
  | _,_,_=>False
theorem stK_some (vs:List AV)(n:Nat)(cs:List AV)(b o:Nat)(σ:Store)(K:Store→Prop):stK (some vs) (some n) (some (.cells cs)) b o σ K=(vs.length=n∧vs.all AV.one=true∧o+n≤cs.length∧K (σ.set b (.cells (splice cs o vs)))):=propext Iff.rfl
theorem astore_ptr (P:Program)(T:TypeId)(b o:Nat)(v:AV)(σ:Store)(K:Store→Prop):astore P T (.val (.pointer (some ⟨b,o,none⟩))) v σ K=stK v.cells (szOf P T) (σ.get b) b o σ K:=by
  unfold astore stK;generalize v.cells=p;generalize szOf P T=q
  cases p<;>cases q<;>try rfl
  simp only;generalize σ.get b=r
  cases r with
  | none=>rfl
  | some x=>cases x<;>rfl
def fKr (cs:List AV)(o:Option Nat)(K:AV→Prop):Prop:=match o with | some off=>K (.ro (cs.drop off)) | none=>False
theorem fKr_some (cs:List AV)(off:Nat)(K:AV→Prop):fKr cs (some off) K=K (.ro (cs.drop off)):=propext Iff.rfl
def fKp (b o:Nat)(x:Option Nat)(K:AV→Prop):Prop:=match x with | some off=>K (.val (.pointer (some ⟨b,o+off,none⟩))) | none=>False
theorem fKp_some (b o off:Nat)(K:AV→Prop):fKp b o (some off) K=K (.val (.pointer (some ⟨b,o+off,none⟩))):=propext Iff.rfl
theorem afield_ro (P:Program)(s:TypeId)(cs:List AV)(f:Nat)(K:AV→Prop):afield P s (.ro cs) f K=fKr cs (fOff P s f) K:=by unfold afield fKr;cases fOff P s f<;>rfl
theorem afield_ptr (P:Program)(s:TypeId)(b o:Nat)(f:Nat)(K:AV→Prop):afield P s (.val (.pointer (some ⟨b,o,none⟩))) f K=fKp b o (fOff P s f) K:=by unfold afield fKp;cases fOff P s f<;>rfl
def ixL (P:Program)(s:Nat)(es:List (List AV))(n:Int)(e:Option TypeId)(K:AV→Prop):Prop :=
  match e with
  | some e=>szOf P e=some s∧0≤n∧n<es.length∧∀ c,es[n.toNat]?=some c→K (.ro c)
  | none=>False
theorem ixL_some (P:Program)(s:Nat)(es:List (List AV))(n:Int)(e:TypeId)(K:AV→Prop):ixL P s es n (some e) K=(szOf P e=some s∧0≤n∧n<es.length∧∀ c,es[n.toNat]?=some c→K (.ro c)):=propext Iff.rfl
theorem aindexAddr_list (P:Program)(t:TypeId)(r:Rt)(s:Nat)(es:List (List AV))(k:IntKind)(n:Int)(K:AV→Prop):aindexAddr P t (.list r s es) (.val (.int k n)) K=ixL P s es n (elOf P t) K:=by
  unfold aindexAddr ixL;cases elOf P t<;>rfl
def ixS (b o len:Nat)(n:Int)(s:Option Nat)(K:AV→Prop):Prop :=
  match s with
  | some s=>0≤n∧n<len∧K (.val (.pointer (some ⟨b,o+n.toNat * s,none⟩)))
  | none=>False
theorem ixS_some (b o len:Nat)(n:Int)(s:Nat)(K:AV→Prop):ixS b o len n (some s) K=(0≤n∧n<len∧K (.val (.pointer (some ⟨b,o+n.toNat * s,none⟩)))):=propext Iff.rfl
theorem aindexAddr_slice (P:Program)(t:TypeId)(b o len c:Nat)(k:IntKind)(n:Int)(K:AV→Prop):aindexAddr P t (.val (.slice (some ⟨b,o,none⟩) len c)) (.val (.int k n)) K=ixS b o len n ((elOf P t).bind (szOf P)) K:=by
  unfold aindexAddr ixS;cases elOf P t with
  | none=>rfl
  | some e=>simp only [Option.bind_some];cases szOf P e<;>rfl
def ixR (cs:List AV)(len:Nat)(n:Int)(s:Option Nat)(K:AV→Prop):Prop :=
  match s with
  | some s=>0≤n∧n<len∧K (.ro (cs.drop (n.toNat * s)))
  | none=>False
theorem ixR_some (cs:List AV)(len:Nat)(n:Int)(s:Nat)(K:AV→Prop):ixR cs len n (some s) K=(0≤n∧n<len∧K (.ro (cs.drop (n.toNat * s)))):=propext Iff.rfl
theorem aindex_str (P:Program)(t:TypeId)(s:ByteArray)(k:IntKind)(n:Int)(K:AV→Prop)(hu:P.underlying t=some .string):aindex P t (.val (.string s)) (.val (.int k n)) K=(0≤n∧n<s.size∧K (.val (.int .u8 (bAt s n.toNat)))):=by
  unfold aindex;rw [hu]
def fvK (P:Program)(cs:List AV)(x:Option (Nat×TypeId))(K:AV→Prop):Prop:=match x with | some (off,T)=>oK (apick P T (cs.drop off)) K | none=>False
theorem fvK_some (P:Program)(cs:List AV)(off T:Nat)(K:AV→Prop):fvK P cs (some (off,T)) K=oK (apick P T (cs.drop off)) K:=propext Iff.rfl
theorem afieldv_agg (P:Program)(s:TypeId)(cs:List AV)(f:Nat)(K:AV→Prop):afieldv P s (.agg cs) f K=fvK P cs (fTy P s f) K:=by
  unfold afieldv fvK;cases fTy P s f with
  | none=>rfl
  | some x=>cases x;rfl
theorem abinK_some (P:Program)(op:BinOp)(T:TypeId)(x y v:AV)(yc:Operand)(K:AV→Prop)(h:abin P op T x y (opC yc)=some v):abinK P op T x y yc K=K v:=by
  unfold abinK;rw [h]
theorem ab_add (P:Program)(T:TypeId)(k:IntKind)(a b:Int)(yc:Operand)(K:AV→Prop):abinK P .add T (.val (.int k a)) (.val (.int k b)) yc K=K (.val (.int k (k.wrap (a+b)))):=abinK_some _ _ _ _ _ _ _ _ (by simp [abin])
theorem ab_sub (P:Program)(T:TypeId)(k:IntKind)(a b:Int)(yc:Operand)(K:AV→Prop):abinK P .sub T (.val (.int k a)) (.val (.int k b)) yc K=K (.val (.int k (k.wrap (a-b)))):=abinK_some _ _ _ _ _ _ _ _ (by simp [abin])
theorem ab_mul (P:Program)(T:TypeId)(k:IntKind)(a b:Int)(yc:Operand)(K:AV→Prop):abinK P .mul T (.val (.int k a)) (.val (.int k b)) yc K=K (.val (.int k (k.wrap (a * b)))):=abinK_some _ _ _ _ _ _ _ _ (by simp [abin])
theorem ab_lss (P:Program)(T:TypeId)(k:IntKind)(a b:Int)(yc:Operand)(K:AV→Prop):abinK P .lss T (.val (.int k a)) (.val (.int k b)) yc K=K (.val (.bool (decide (a<b)))):=abinK_some _ _ _ _ _ _ _ _ (by simp [abin])
theorem ab_leq (P:Program)(T:TypeId)(k:IntKind)(a b:Int)(yc:Operand)(K:AV→Prop):abinK P .leq T (.val (.int k a)) (.val (.int k b)) yc K=K (.val (.bool (decide (a≤b)))):=abinK_some _ _ _ _ _ _ _ _ (by simp [abin])
theorem ab_gtr (P:Program)(T:TypeId)(k:IntKind)(a b:Int)(yc:Operand)(K:AV→Prop):abinK P .gtr T (.val (.int k a)) (.val (.int k b)) yc K=K (.val (.bool (decide (b<a)))):=abinK_some _ _ _ _ _ _ _ _ (by simp [abin])
theorem ab_geq (P:Program)(T:TypeId)(k:IntKind)(a b:Int)(yc:Operand)(K:AV→Prop):abinK P .geq T (.val (.int k a)) (.val (.int k b)) yc K=K (.val (.bool (decide (b≤a)))):=abinK_some _ _ _ _ _ _ _ _ (by simp [abin])
theorem ab_eql (P:Program)(T:TypeId)(k:IntKind)(a b:Int)(yc:Operand)(K:AV→Prop):abinK P .eql T (.val (.int k a)) (.val (.int k b)) yc K=K (.val (.bool (decide (a=b)))):=abinK_some _ _ _ _ _ _ _ _ (by simp [abin])
theorem ab_neq (P:Program)(T:TypeId)(k:IntKind)(a b:Int)(yc:Operand)(K:AV→Prop):abinK P .neq T (.val (.int k a)) (.val (.int k b)) yc K=K (.val (.bool (!decide (a=b)))):=abinK_some _ _ _ _ _ _ _ _ (by simp [abin])
theorem ab_quo (P:Program)(T:TypeId)(k:IntKind)(a b:Int)(yc:Operand)(K:AV→Prop)(h:b≠0):abinK P .quo T (.val (.int k a)) (.val (.int k b)) yc K=K (.val (.int k (k.wrap (a.tdiv b)))):=abinK_some _ _ _ _ _ _ _ _ (by simp [abin,opC,h])
theorem ab_rem (P:Program)(T:TypeId)(k:IntKind)(a b:Int)(yc:Operand)(K:AV→Prop)(h:b≠0):abinK P .rem T (.val (.int k a)) (.val (.int k b)) yc K=K (.val (.int k (a.tmod b))):=abinK_some _ _ _ _ _ _ _ _ (by simp [abin,opC,h])
theorem ab_shl (P:Program)(T:TypeId)(k k':IntKind)(a b:Int)(yc:Operand)(K:AV→Prop)(h:0≤b):abinK P .shl T (.val (.int k a)) (.val (.int k' b)) yc K=K (.val (.int k (k.wrap (a * 2 ^ min b.toNat k.bits)))):=abinK_some _ _ _ _ _ _ _ _ (by simp [abin,opC,h])
theorem ab_shr (P:Program)(T:TypeId)(k k':IntKind)(a b:Int)(yc:Operand)(K:AV→Prop)(h:0≤b):abinK P .shr T (.val (.int k a)) (.val (.int k' b)) yc K=K (.val (.int k (a.fdiv (2 ^ min b.toNat k.bits)))):=abinK_some _ _ _ _ _ _ _ _ (by simp [abin,opC,h])
theorem ab_xor (P:Program)(T:TypeId)(k:IntKind)(a b:Int)(yc:Operand)(K:AV→Prop):abinK P .xor T (.val (.int k a)) (.val (.int k b)) yc K=K (.val (.int k (k.wrap (BitVec.ofInt k.bits a ^^^ BitVec.ofInt k.bits b).toNat))):=abinK_some _ _ _ _ _ _ _ _ (by simp [abin])
theorem ab_and (P:Program)(T:TypeId)(k:IntKind)(a b:Int)(yc:Operand)(K:AV→Prop):abinK P .and T (.val (.int k a)) (.val (.int k b)) yc K=K (.val (.int k (k.wrap (BitVec.ofInt k.bits a &&& BitVec.ofInt k.bits b).toNat))):=abinK_some _ _ _ _ _ _ _ _ (by simp [abin])
theorem ab_seq (P:Program)(T:TypeId)(a b:ByteArray)(yc:Operand)(K:AV→Prop):abinK P .eql T (.val (.string a)) (.val (.string b)) yc K=K (.val (.bool (decide (a=b)))):=abinK_some _ _ _ _ _ _ _ _ (by simp [abin])
theorem ab_sne (P:Program)(T:TypeId)(a b:ByteArray)(yc:Operand)(K:AV→Prop):abinK P .neq T (.val (.string a)) (.val (.string b)) yc K=K (.val (.bool (!decide (a=b)))):=abinK_some _ _ _ _ _ _ _ _ (by simp [abin])
theorem ab_slt (P:Program)(T:TypeId)(a b:ByteArray)(yc:Operand)(K:AV→Prop):abinK P .lss T (.val (.string a)) (.val (.string b)) yc K=K (.val (.bool (decide (Op.bytesLess a.data.toList b.data.toList=true)))):=abinK_some _ _ _ _ _ _ _ _ (by simp [abin])
theorem ab_sgt (P:Program)(T:TypeId)(a b:ByteArray)(yc:Operand)(K:AV→Prop):abinK P .gtr T (.val (.string a)) (.val (.string b)) yc K=K (.val (.bool (!decide (Op.bytesLess a.data.toList b.data.toList=true∨a=b)))):=abinK_some _ _ _ _ _ _ _ _ (by simp [abin])
theorem ab_beq (P:Program)(T:TypeId)(a b:Bool)(yc:Operand)(K:AV→Prop)(h:P.underlying T=some .bool):abinK P .eql T (.val (.bool a)) (.val (.bool b)) yc K=K (.val (.bool (decide (a=b)))):=abinK_some _ _ _ _ _ _ _ _ (by simp [abin,opC,h])
theorem ab_bne (P:Program)(T:TypeId)(a b:Bool)(yc:Operand)(K:AV→Prop)(h:P.underlying T=some .bool):abinK P .neq T (.val (.bool a)) (.val (.bool b)) yc K=K (.val (.bool (!decide (a=b)))):=abinK_some _ _ _ _ _ _ _ _ (by simp [abin,opC,h])
theorem ab_nilne (P:Program)(T:TypeId)(c:Value)(K:AV→Prop)(h:isIfaceB (P.underlying T)=true):abinK P .neq T (.val .nilIface) (.val .nilIface) (.const c) K=K (.val (.bool false)):=abinK_some _ _ _ _ _ _ _ _ (by simp [abin,opC,h])
theorem ab_nileq (P:Program)(T:TypeId)(c:Value)(K:AV→Prop)(h:isIfaceB (P.underlying T)=true):abinK P .eql T (.val .nilIface) (.val .nilIface) (.const c) K=K (.val (.bool true)):=abinK_some _ _ _ _ _ _ _ _ (by simp [abin,opC,h])
theorem ab_ifne (P:Program)(T t:TypeId)(v:Value)(yc:Operand)(K:AV→Prop)(h:isIfaceB (P.underlying T)=true):abinK P .neq T (.val (.iface t v)) (.val .nilIface) yc K=K (.val (.bool true)):=abinK_some _ _ _ _ _ _ _ _ (by simp [abin,opC,h])
theorem ab_ifeq (P:Program)(T t:TypeId)(v:Value)(yc:Operand)(K:AV→Prop)(h:isIfaceB (P.underlying T)=true):abinK P .eql T (.val (.iface t v)) (.val .nilIface) yc K=K (.val (.bool false)):=abinK_some _ _ _ _ _ _ _ _ (by simp [abin,opC,h])
def eqK (o:Option Bool)(F:Prop)(K:AV→Prop):Prop:=match o with | some b=>K (.val (.bool b)) | none=>F
theorem eqK_some (b:Bool)(F:Prop)(K:AV→Prop):eqK (some b) F K=K (.val (.bool b)):=propext Iff.rfl
def and2:Option Bool→Option Bool→Option Bool
  | some x,some y=>some (x&&y)
  | _,_=>none
theorem and2_some (x y:Bool):and2 (some x) (some y)=some (x&&y):=rfl
theorem agEqO_some (l:List Nat)(xs ys:List AV):agEqO (some l) xs ys=agEq l xs ys:=rfl
theorem agEq_nil:agEq [] [] []=some true:=rfl
theorem agEq_cons (k:Nat)(l:List Nat)(a b:AV)(r s:List AV):agEq (k::l) (a::r) (b::s)=and2 (cellEq k a b) (agEq l r s):=by
  simp only [agEq]
  cases cellEq k a b<;>cases agEq l r s<;>rfl
theorem cellEq_int (k:IntKind)(x y:Int):cellEq 0 (.val (.int k x)) (.val (.int k y))=some (decide (x=y)):=by simp [cellEq]
theorem cellEq_bool (x y:Bool):cellEq 1 (.val (.bool x)) (.val (.bool y))=some (decide (x=y)):=rfl
theorem cellEq_string (x y:ByteArray):cellEq 2 (.val (.string x)) (.val (.string y))=some (decide (x=y)):=rfl
def nB:Option Bool→Option Bool
  | some b=>some (!b)
  | none=>none
theorem nB_some (b:Bool):nB (some b)=some (!b):=rfl
def abF (P:Program)(op:BinOp)(T:TypeId)(xs ys:List AV)(yc:Operand)(K:AV→Prop):Prop:=abinK P op T (.agg xs) (.agg ys) yc K
theorem ab_aeq (P:Program)(T:TypeId)(xs ys:List AV)(yc:Operand)(K:AV→Prop):abinK P .eql T (.agg xs) (.agg ys) yc K=eqK (agEqO (eqT P T) xs ys) (abF P .eql T xs ys yc K) K:=by
  cases h:agEqO (eqT P T) xs ys with
  | none=>rfl
  | some b=>unfold abinK;simp only [abin,h];rfl
theorem ab_ane (P:Program)(T:TypeId)(xs ys:List AV)(yc:Operand)(K:AV→Prop):abinK P .neq T (.agg xs) (.agg ys) yc K=eqK (nB (agEqO (eqT P T) xs ys)) (abF P .neq T xs ys yc K) K:=by
  cases h:agEqO (eqT P T) xs ys with
  | none=>rfl
  | some b=>unfold abinK;simp only [abin,h];rfl
attribute [go_sem] eqK_some and2_some agEqO_some agEq_nil agEq_cons cellEq_int cellEq_bool cellEq_string nB_some ab_aeq ab_ane
theorem aun_not (b:Bool)(K:AV→Prop):aun .not (.val (.bool b)) K=K (.val (.bool (!b))):=propext Iff.rfl
theorem aun_neg (k:IntKind)(n:Int)(K:AV→Prop):aun .neg (.val (.int k n)) K=K (.val (.int k (k.wrap (0-n)))):=propext Iff.rfl
def ifK (T:TypeId)(o:Option Value)(K:AV→Prop):Prop:=match o with | some v=>K (.val (.iface T v)) | none=>False
theorem ifK_some (T:TypeId)(v:Value)(K:AV→Prop):ifK T (some v) K=K (.val (.iface T v)):=propext Iff.rfl
theorem aiface_eq (P:Program)(T:TypeId)(x:AV)(K:AV→Prop):aiface P T x K=((P.underlying T).isSome=true∧isIfaceB (P.underlying T)=false∧ifK T x.toVal K):=by
  unfold aiface ifK;cases x.toVal<;>rfl
theorem aassert_hit (P:Program)(T:TypeId)(v:Value)(K:AV→Prop):aassert P (.val (.iface T v)) T true K=((P.underlying T).isSome=true∧isIfaceB (P.underlying T)=false∧K (.tup [AV.lift v,.val (.bool true)])):=by
  unfold aassert;simp
theorem aextract_tup (vs:List AV)(i:Nat)(K:AV→Prop):aextract (.tup vs) i K=oK (vs[i]?) K:=by unfold aextract oK;rfl
def bdK (P:Program)(t:TypeId)(z:Option Value)(pl:Option (List (Nat×Nat)))(ps:List (Nat×AV))(K:AV→Prop):Prop :=
  match z,pl with
  | some z,some pl=>oK ((afill (fun i=>pl[i]?) (zeroCs z) ps).map .agg) K
  | _,_=>False
theorem bdK_some (P:Program)(t:TypeId)(z:Value)(pl:List (Nat×Nat))(ps:List (Nat×AV))(K:AV→Prop):bdK P t (some z) (some pl) ps K=oK ((afill (fun i=>pl[i]?) (zeroCs z) ps).map .agg) K:=propext Iff.rfl
theorem abuild_eq (P:Program)(t:TypeId)(ps:List (Nat×AV))(K:AV→Prop):abuild P t ps K=bdK P t (zeroOf P t) (plsOf P t) ps K:=by
  unfold abuild bdK oK
  cases zeroOf P t with
  | none=>rfl
  | some z=>cases plsOf P t with
    | none=>rfl
    | some pl=>simp only;cases afill (fun i=>pl[i]?) (zeroCs z) ps<;>rfl
def bsK (es:Option (List (List AV)))(s:Nat)(K:AV→Prop):Prop :=
  match es with
  | some es=>es.all (fun e=>e.all AV.one)=true∧K (.list .full s es)
  | none=>False
theorem bsK_some (es:List (List AV))(s:Nat)(K:AV→Prop):bsK (some es) s K=(es.all (fun e=>e.all AV.one)=true∧K (.list .full s es)):=propext Iff.rfl
def cuL (P:Program)(r:Rt)(s:Nat)(es:List (List AV))(e:Nat)(hi:Option AV)(l h:Option Int)(K:AV→Prop):Prop :=
  match l,h with
  | some l,some h=>szOf P e=some s∧0≤l∧l≤h∧h≤es.length∧K (.list (cutRt hi r) s ((es.drop l.toNat).take (h.toNat-l.toNat)))
  | _,_=>False
theorem cuL_some (P:Program)(r:Rt)(s:Nat)(es:List (List AV))(e:Nat)(hi:Option AV)(l h:Int)(K:AV→Prop):cuL P r s es e hi (some l) (some h) K=(szOf P e=some s∧0≤l∧l≤h∧h≤es.length∧K (.list (cutRt hi r) s ((es.drop l.toNat).take (h.toNat-l.toNat)))):=propext Iff.rfl
theorem intOr_none (d:Int):intOr none d=some d:=rfl
theorem intOr_some (k:IntKind)(n d:Int):intOr (some (.val (.int k n))) d=some n:=rfl
theorem amm_max (k k':IntKind)(x y:Int)(K:AV→Prop):amm true [.val (.int k x),.val (.int k' y)] K=K (.val (.int k (max x y))):=propext Iff.rfl
theorem amm_min (k k':IntKind)(x y:Int)(K:AV→Prop):amm false [.val (.int k x),.val (.int k' y)] K=K (.val (.int k (min x y))):=propext Iff.rfl
theorem anil_ptr (a:Addr)(K:AV→Prop):anil (.val (.pointer (some a))) K=K (.val (.pointer (some a))):=propext Iff.rfl
theorem anil_func (f:Nat)(a b:Array Value)(K:AV→Prop):anil (.val (.func (.func f) a b)) K=K (.val (.func (.func f) a b)):=propext Iff.rfl
theorem anil_ro (cs:List AV)(K:AV→Prop):anil (.ro cs) K=K (.ro cs):=propext Iff.rfl
theorem abt_append (P:Program)(sT xT:Nat)(s x:AV)(σ:Store)(K:ARes→Store→Prop):abuiltin P .append ⟨[sT,xT]⟩ [s,x] σ K=aappend P sT xT s x σ (kRs K):=propext Iff.rfl
theorem abt_len (P:Program)(t:Nat)(x:AV)(σ:Store)(K:ARes→Store→Prop):abuiltin P .len ⟨[t]⟩ [x] σ K=alen P t x σ (kRet K σ):=propext Iff.rfl
theorem abt_max (P:Program)(ts:Array TypeId)(xs:List AV)(σ:Store)(K:ARes→Store→Prop):abuiltin P .max ts xs σ K=amm true xs (kRet K σ):=by
  unfold abuiltin;split<;>simp_all
theorem abt_min (P:Program)(ts:Array TypeId)(xs:List AV)(σ:Store)(K:ARes→Store→Prop):abuiltin P .min ts xs σ K=amm false xs (kRet K σ):=by
  unfold abuiltin;split<;>simp_all
/-! ### an operation -/
section
variable (P:Program) (mu:Bool) (ev:Operand→AV) (σ:Store) (K:ARes→Store→Prop)
def pkK (c a b:AV)(K:AV→Prop):Prop:=match c with | .val (.bool x)=>K (if x then a else b) | _=>False
theorem pkK_true (a b:AV)(K:AV→Prop):pkK (.val (.bool true)) a b K=K a:=propext Iff.rfl
theorem pkK_false (a b:AV)(K:AV→Prop):pkK (.val (.bool false)) a b K=K b:=propext Iff.rfl
theorem pkK_dec (p:Prop)[Decidable p](a b:AV)(K:AV→Prop):pkK (.val (.bool (decide p))) a b K=((p→K a)∧(¬ p→K b)):=by
  unfold pkK;by_cases h:p<;>simp [h]
def alK (z:Option Value)(σ:Store)(K:ARes→Store→Prop):Prop:=match z with | some z=>abox true (zeroCs z) σ K | none=>False
theorem alK_some (z:Value):alK (some z) σ K=abox true (zeroCs z) σ K:=propext Iff.rfl
def bxK (cs:Option (List AV))(mu:Bool)(σ:Store)(K:ARes→Store→Prop):Prop:=match cs with | some cs=>abox mu cs σ K | none=>False
theorem bxK_some (cs:List AV):bxK (some cs) mu σ K=abox mu cs σ K:=propext Iff.rfl
def mfK (fn:Fn)(f c:Option (List Value))(K:AV→Prop):Prop:=match f,c with | some f,some c=>K (.val (.func fn f.toArray c.toArray)) | _,_=>False
theorem mfK_some (fn:Fn)(f c:List Value)(K:AV→Prop):mfK fn (some f) (some c) K=K (.val (.func fn ⟨f⟩ ⟨c⟩)):=propext Iff.rfl
def pnK (x:AV)(σ:Store)(K:ARes→Store→Prop):Prop:=match x with | .val (.iface t v)=>K (.pan (.iface t v)) σ | _=>False
theorem pnK_iface (t:TypeId)(v:Value):pnK (.val (.iface t v)) σ K=K (.pan (.iface t v)) σ:=propext Iff.rfl
theorem as_move (x:Operand):astep P mu ev σ K (.move x)=K (.ret (ev x)) σ:=propext Iff.rfl
theorem as_assign (x:Operand):astep P mu ev σ K (.assign x)=K (.ret (ev x)) σ:=propext Iff.rfl
theorem as_pick (c a b:Operand):astep P mu ev σ K (.pick c a b)=pkK (ev c) (ev a) (ev b) (kRet K σ):=propext Iff.rfl
theorem as_alloc (T:TypeId):astep P mu ev σ K (.alloc T)=alK (zeroOf P T) σ K:=propext Iff.rfl
theorem as_box (T:TypeId)(x:Operand):astep P mu ev σ K (.box T x)=bxK (ev x).cells mu σ K:=propext Iff.rfl
theorem as_build (t:TypeId)(ps:List (Nat×Operand)):astep P mu ev σ K (.build t ⟨ps⟩)=abuild P t (ps.map fun p=>(p.1,ev p.2)) (kRet K σ):=propext Iff.rfl
theorem as_buildSlice (t:TypeId)(n:Nat)(ps:List (Nat×Operand)):astep P mu ev σ K (.buildSlice t n ⟨ps⟩)=abuildSlice P t n (ps.map fun p=>(p.1,ev p.2)) (kRet K σ):=propext Iff.rfl
theorem as_load (T:TypeId)(x:Operand):astep P mu ev σ K (.load T x)=aload P T (ev x) σ (kRet K σ):=propext Iff.rfl
theorem as_store (T:TypeId)(x y:Operand):astep P mu ev σ K (.store T x y)=astore P T (ev x) (ev y) σ (kSto K):=propext Iff.rfl
theorem as_nilCheck (x:Operand):astep P mu ev σ K (.nilCheck x)=anil (ev x) (kRet K σ):=propext Iff.rfl
theorem as_binOp (op:BinOp)(T T':TypeId)(x y:Operand):astep P mu ev σ K (.binOp op T x y T')=abinK P op T (ev x) (ev y) y (kRet K σ):=propext Iff.rfl
theorem as_unOp (op:UnOp)(T:TypeId)(x:Operand):astep P mu ev σ K (.unOp op T x)=aun op (ev x) (kRet K σ):=propext Iff.rfl
theorem as_convert (s d:TypeId)(x:Operand):astep P mu ev σ K (.convert s d x)=aconv P s d (ev x) (kRet K σ):=propext Iff.rfl
theorem as_makeInterface (T:TypeId)(x:Operand):astep P mu ev σ K (.makeInterface T x)=aiface P T (ev x) (kRet K σ):=propext Iff.rfl
theorem as_makeFunc (fn:Fn)(f c:List Operand):astep P mu ev σ K (.makeFunc fn ⟨f⟩ ⟨c⟩)=mfK fn (AV.toVals (f.map ev)) (AV.toVals (c.map ev)) (kRet K σ):=propext Iff.rfl
theorem as_makeSlice (t:TypeId)(n c:Operand):astep P mu ev σ K (.makeSlice t n c)=amakeSlice P t (ev n) (ev c) σ K:=propext Iff.rfl
theorem as_slice (t:TypeId)(x:Operand)(lo hi mx:Option Operand):astep P mu ev σ K (.slice t x lo hi mx)=acut P t (ev x) (lo.map ev) (hi.map ev) (mx.map ev) (kRet K σ):=propext Iff.rfl
theorem as_fieldAddr (s:TypeId)(x:Operand)(f:Nat):astep P mu ev σ K (.fieldAddr s x f)=afield P s (ev x) f (kRet K σ):=propext Iff.rfl
theorem as_field (s:TypeId)(x:Operand)(f:Nat):astep P mu ev σ K (.field s x f)=afieldv P s (ev x) f (kRet K σ):=propext Iff.rfl
theorem as_indexAddr (t:TypeId)(x i:Operand):astep P mu ev σ K (.indexAddr t x i)=aindexAddr P t (ev x) (ev i) (kRet K σ):=propext Iff.rfl
theorem as_index (t:TypeId)(x i:Operand):astep P mu ev σ K (.index t x i)=aindex P t (ev x) (ev i) (kRet K σ):=propext Iff.rfl
theorem as_extract (x:Operand)(i:Nat):astep P mu ev σ K (.extract x i)=aextract (ev x) i (kRet K σ):=propext Iff.rfl
theorem as_typeAssert (x:Operand)(t T:TypeId)(ok:Bool):astep P mu ev σ K (.typeAssert x t T ok)=aassert P (ev x) T ok (kRet K σ):=propext Iff.rfl
theorem as_panic (x:Operand):astep P mu ev σ K (.panic x)=pnK (ev x) σ K:=propext Iff.rfl
theorem as_call (f:Operand)(args:List Operand)(ts:Array TypeId):astep P mu ev σ K (.call ⟨.value f,⟨args⟩,ts⟩)=AInvoke P (ev f) (args.map ev) σ K:=propext Iff.rfl
theorem as_builtin (b:Builtin)(args:List Operand)(ts:Array TypeId):astep P false ev σ K (.call ⟨.builtin b,⟨args⟩,ts⟩)=abuiltin P b ts (args.map ev) σ K:=propext Iff.rfl
theorem as_appM (s x:Operand)(sT xT:TypeId):astep P true ev σ K (.call ⟨.builtin .append,⟨[s,x]⟩,⟨[sT,xT]⟩⟩)=aappM P sT xT (ev s) (ev x) σ (kRs K):=propext Iff.rfl
theorem as_makeMap (t:TypeId):astep P mu ev σ K (.makeMap t none)=amakeMap σ K:=propext Iff.rfl
theorem as_mapUpdate (t:TypeId)(m k v:Operand):astep P mu ev σ K (.mapUpdate t m k v)=amapUpd P t (ev m) (ev k) (ev v) σ (kSto K):=propext Iff.rfl
theorem as_insert (t:TypeId)(m k v:Operand):astep P mu ev σ K (.insert t m k v)=amapUpd P t (ev m) (ev k) (ev v) σ (kSto K):=propext Iff.rfl
theorem as_lookup (t:TypeId)(m k:Operand)(ok:Bool):astep P mu ev σ K (.lookup t m k ok)=alook P t (ev m) (ev k) ok σ (kRet K σ):=propext Iff.rfl
theorem as_range (t:TypeId)(m:Operand):astep P mu ev σ K (.range t m)=arange P t (ev m) σ K:=propext Iff.rfl
theorem as_next (it:Operand):astep P mu ev σ K (.next it false)=anext (ev it) σ K:=propext Iff.rfl
theorem as_entry (it:Operand):astep P mu ev σ K (.entry it)=aentry (ev it) σ (kRet K σ):=propext Iff.rfl
theorem amakeMap_app (σ:Store)(K:ARes→Store→Prop):amakeMap σ K=∀ b,Fresh σ b→K (.ret (.val (.map (some b)))) ((b,.map [] 0)::σ):=propext Iff.rfl
end
theorem inv_of (P:Program)(g:FuncId)(l:List Value)(args:List AV)(σ:Store)(K:ARes→Store→Prop):AInvoke P (.val (.func (.func g) ⟨[]⟩ ⟨l⟩)) args σ K=ACalls P g (args++l.map .val) σ K:=by
  apply propext
  constructor
  · rintro ⟨g',f,c,e,h⟩
    injection e with e
    injection e with e1 e2 e3
    injection e1 with e1
    subst e1;subst e2;subst e3
    simpa using h
  · intro h;exact ⟨g,⟨[]⟩,⟨l⟩,rfl,by simpa using h⟩
/-! ### by what the tables say -/
def ixA (P:Program)(x:AV)(n:Int)(d:Option TypeDesc)(K:AV→Prop):Prop :=
  match d,x with
  | some (.array len e),.val (.pointer (some ⟨b,o,none⟩))=>ixS b o len n (szOf P e) K
  | some (.array len e),.ro cs=>ixR cs len n (szOf P e) K
  | _,_=>False
theorem ixA_ptr (P:Program)(b o:Nat)(n:Int)(len e:Nat)(K:AV→Prop):ixA P (.val (.pointer (some ⟨b,o,none⟩))) n (some (.array len e)) K=ixS b o len n (szOf P e) K:=propext Iff.rfl
theorem ixA_ro (P:Program)(cs:List AV)(n:Int)(len e:Nat)(K:AV→Prop):ixA P (.ro cs) n (some (.array len e)) K=ixR cs len n (szOf P e) K:=propext Iff.rfl
theorem aindexAddr_ap (P:Program)(t:TypeId)(b o:Nat)(k:IntKind)(n:Int)(K:AV→Prop)(h:elOf P t=none):aindexAddr P t (.val (.pointer (some ⟨b,o,none⟩))) (.val (.int k n)) K=ixA P (.val (.pointer (some ⟨b,o,none⟩))) n (P.underlying t) K:=by
  unfold aindexAddr ixA ixS;rw [h];simp only;generalize P.underlying t=d
  cases d with
  | none=>rfl
  | some d=>cases d<;>rfl
theorem aindexAddr_ar (P:Program)(t:TypeId)(cs:List AV)(k:IntKind)(n:Int)(K:AV→Prop)(h:elOf P t=none):aindexAddr P t (.ro cs) (.val (.int k n)) K=ixA P (.ro cs) n (P.underlying t) K:=by
  unfold aindexAddr ixA ixR;rw [h];simp only;generalize P.underlying t=d
  cases d with
  | none=>rfl
  | some d=>cases d<;>rfl
def nlK (e:Option TypeId)(w:Bool)(es:List (List AV))(K:AV→Prop):Prop :=
  match e with
  | some _=>∀ b:Bool,(b=w→es=[])→K (.val (.bool b))
  | none=>False
theorem nlK_some (e:TypeId)(w:Bool)(es:List (List AV))(K:AV→Prop):nlK (some e) w es K=∀ b:Bool,(b=w→es=[])→K (.val (.bool b)):=propext Iff.rfl
theorem ab_leq_nil (P:Program)(T:TypeId)(r:Rt)(s:Nat)(es:List (List AV))(y:AV)(n c:Nat)(K:AV→Prop):abinK P .eql T (.list r s es) y (.const (.slice none n c)) K=nlK (elOf P T) true es K:=by
  unfold abinK nlK;cases y<;>simp only [abin]<;>cases elOf P T<;>rfl
theorem ab_lne_nil (P:Program)(T:TypeId)(r:Rt)(s:Nat)(es:List (List AV))(y:AV)(n c:Nat)(K:AV→Prop):abinK P .neq T (.list r s es) y (.const (.slice none n c)) K=nlK (elOf P T) false es K:=by
  unfold abinK nlK;cases y<;>simp only [abin]<;>cases elOf P T<;>rfl
def acK (s d:Option TypeDesc)(n:Int)(K:AV→Prop):Prop :=
  match s,d with
  | some _,some (.int k)=>K (.val (.int k (k.wrap n)))
  | _,_=>False
theorem acK_int (q:TypeDesc)(k:IntKind)(n:Int)(K:AV→Prop):acK (some q) (some (.int k)) n K=K (.val (.int k (k.wrap n))):=propext Iff.rfl
theorem aconv_int (P:Program)(s d:TypeId)(j:IntKind)(n:Int)(K:AV→Prop):aconv P s d (.val (.int j n)) K=acK (P.underlying s) (P.underlying d) n K:=by
  unfold aconv acK;generalize P.underlying s=a;generalize P.underlying d=b
  cases a<;>cases b<;>try rfl
  rename_i d;cases d<;>rfl
def bsZ (s:Option Nat)(z:Option Value)(len:Nat)(ps:List (Nat×AV))(K:AV→Prop):Prop :=
  match s,z with
  | some s,some z=>0<s∧ps.map (·.1)=List.range len∧len * s≤16777216∧z.cells.size=s∧bsK (allCells s (ps.map (·.2))) s K
  | _,_=>False
theorem bsZ_some (s:Nat)(z:Value)(len:Nat)(ps:List (Nat×AV))(K:AV→Prop):bsZ (some s) (some z) len ps K=(0<s∧ps.map (·.1)=List.range len∧len * s≤16777216∧z.cells.size=s∧bsK (allCells s (ps.map (·.2))) s K):=propext Iff.rfl
def bsE (P:Program)(e:Option TypeId)(len:Nat)(ps:List (Nat×AV))(K:AV→Prop):Prop :=
  match e with
  | some e=>bsZ (szOf P e) (zeroOf P e) len ps K
  | none=>False
theorem bsE_some (P:Program)(e:TypeId)(len:Nat)(ps:List (Nat×AV))(K:AV→Prop):bsE P (some e) len ps K=bsZ (szOf P e) (zeroOf P e) len ps K:=propext Iff.rfl
theorem abuildSlice_eq (P:Program)(t len:Nat)(ps:List (Nat×AV))(K:AV→Prop):abuildSlice P t len ps K=bsE P (elOf P t) len ps K:=by
  unfold abuildSlice bsE bsZ bsK;cases elOf P t with
  | none=>rfl
  | some e =>
    simp only;generalize szOf P e=a;generalize zeroOf P e=b
    cases a<;>cases b<;>try rfl
def apZ (sz:Option Nat)(z:Option Value)(by_:Option Nat)(s x:AV)(σ:Store)(K:AV→Store→Prop):Prop :=
  match sz,z,by_,s,x with
  | some sz,some z,some by_,.list r s1 es,.list _ s2 ys=>z.cells.size=sz∧by_≤512∧es.length+ys.length≤lim∧(s1=sz∨es=[])∧(s2=sz∨ys=[]) ∧
      match r with
      | .full=>(ys=[]→K (.list .full s1 es) σ)∧(ys≠[]→∀ b e c,Fresh σ b→K (.list (.tip b e c) sz (es++ys)) ((b,.tail e c)::σ))
      | .tip b0 e0 c0=>σ.get b0=some (.tail e0 c0)∧s1=sz∧∀ b e c,Fresh (σ.del b0) b→K (.list (.tip b e c) sz (es++ys)) ((b,.tail e c)::σ.del b0)
      | .none=>ys=[]∧K (.list .none s1 es) σ
  | _,_,_,_,_=>False
def apE (P:Program)(e q:Option TypeId)(s x:AV)(σ:Store)(K:AV→Store→Prop):Prop :=
  match e,q with
  | some e,some _=>apZ (szOf P e) (zeroOf P e) (bytesOf P e) s x σ K
  | _,_=>False
theorem apE_some (P:Program)(e q:TypeId)(s x:AV)(σ:Store)(K:AV→Store→Prop):apE P (some e) (some q) s x σ K=apZ (szOf P e) (zeroOf P e) (bytesOf P e) s x σ K:=propext Iff.rfl
theorem apZ_full (sz:Nat)(z:Value)(by_ s1 s2:Nat)(es ys:List (List AV))(r2:Rt)(σ:Store)(K:AV→Store→Prop):apZ (some sz) (some z) (some by_) (.list .full s1 es) (.list r2 s2 ys) σ K =
    (z.cells.size=sz∧by_≤512∧es.length+ys.length≤lim∧(s1=sz∨es=[])∧(s2=sz∨ys=[])∧(ys=[]→K (.list .full s1 es) σ)∧(ys≠[]→∀ b e c,Fresh σ b→K (.list (.tip b e c) sz (es++ys)) ((b,.tail e c)::σ))):=propext Iff.rfl
theorem apZ_tip (sz:Nat)(z:Value)(by_ s1 s2 b0 e0 c0:Nat)(es ys:List (List AV))(r2:Rt)(σ:Store)(K:AV→Store→Prop):apZ (some sz) (some z) (some by_) (.list (.tip b0 e0 c0) s1 es) (.list r2 s2 ys) σ K =
    (z.cells.size=sz∧by_≤512∧es.length+ys.length≤lim∧(s1=sz∨es=[])∧(s2=sz∨ys=[])∧σ.get b0=some (.tail e0 c0)∧s1=sz∧∀ b e c,Fresh (σ.del b0) b→K (.list (.tip b e c) sz (es++ys)) ((b,.tail e c)::σ.del b0)):=propext Iff.rfl
theorem aappend_eq (P:Program)(sT xT:TypeId)(s x:AV)(σ:Store)(K:AV→Store→Prop):aappend P sT xT s x σ K=apE P (elOf P sT) (elOf P xT) s x σ K:=by
  unfold aappend apE
  generalize elOf P sT=a;generalize elOf P xT=q
  cases a with
  | none=>cases q<;>cases s<;>cases x<;>rfl
  | some e =>
    cases q with
    | none =>
      cases s<;>cases x<;>try rfl
      simp only;generalize szOf P e=i;generalize zeroOf P e=j;generalize bytesOf P e=k
      cases i<;>cases j<;>cases k<;>try rfl
      simp
    | some q =>
      cases s<;>cases x<;>simp only<;>generalize szOf P e=i<;>generalize zeroOf P e=j<;>generalize bytesOf P e=k<;>cases i<;>cases j<;>cases k<;>try rfl
      rename_i r s1 es r2 s2 ys sz z by_
      simp only [Option.isSome_some,true_and,apZ]
      cases r<;>rfl
def lnL (d:Option TypeDesc)(m:Nat)(K:AV→Prop):Prop :=
  match d with
  | some (.slice _)=>K (.val (.int .i64 m))
  | some (.array n _)=>K (.val (.int .i64 n))
  | _=>False
theorem lnL_slice (e m:Nat)(K:AV→Prop):lnL (some (.slice e)) m K=K (.val (.int .i64 m)):=propext Iff.rfl
theorem alen_list (P:Program)(t:Nat)(r:Rt)(s:Nat)(es:List (List AV))(σ:Store)(K:AV→Prop):alen P t (.list r s es) σ K=lnL (P.underlying t) es.length K:=by
  unfold alen lnL;generalize P.underlying t=d;cases d with
  | none=>rfl
  | some d=>cases d<;>rfl
theorem alen_slice (P:Program)(t:Nat)(a:Option Addr)(n c:Nat)(σ:Store)(K:AV→Prop):alen P t (.val (.slice a n c)) σ K=lnL (P.underlying t) n K:=by
  unfold alen lnL;generalize P.underlying t=d;cases d with
  | none=>rfl
  | some d=>cases d<;>rfl
theorem alen_str (P:Program)(t:Nat)(s:ByteArray)(σ:Store)(K:AV→Prop)(h:P.underlying t=some .string):alen P t (.val (.string s)) σ K=K (.val (.int .i64 s.size)):=by
  unfold alen;simp only [h]
def cuS (s:ByteArray)(l h:Option Int)(K:AV→Prop):Prop :=
  match l,h with
  | some l,some h=>0≤l∧l≤h∧h≤s.size∧K (.val (.string (s.extract l.toNat h.toNat)))
  | _,_=>False
theorem cuS_some (s:ByteArray)(l h:Int)(K:AV→Prop):cuS s (some l) (some h) K=(0≤l∧l≤h∧h≤s.size∧K (.val (.string (s.extract l.toNat h.toNat)))):=propext Iff.rfl
theorem acut_str (P:Program)(t:Nat)(s:ByteArray)(lo hi:Option AV)(K:AV→Prop)(hu:P.underlying t=some .string):acut P t (.val (.string s)) lo hi none K=cuS s (intOr lo 0) (intOr hi s.size) K:=by
  unfold acut cuS;simp only [hu];cases intOr lo 0<;>cases intOr hi s.size<;>rfl
def cuD (P:Program)(d:Option TypeDesc)(r:Rt)(s:Nat)(es:List (List AV))(hi:Option AV)(l h:Option Int)(K:AV→Prop):Prop :=
  match d with
  | some (.slice e)=>cuL P r s es e hi l h K
  | _=>False
theorem cuD_slice (P:Program)(e:Nat)(r:Rt)(s:Nat)(es:List (List AV))(hi:Option AV)(l h:Option Int)(K:AV→Prop):cuD P (some (.slice e)) r s es hi l h K=cuL P r s es e hi l h K:=propext Iff.rfl
theorem acut_list (P:Program)(t:Nat)(r:Rt)(s:Nat)(es:List (List AV))(lo hi:Option AV)(K:AV→Prop):acut P t (.list r s es) lo hi none K=cuD P (P.underlying t) r s es hi (intOr lo 0) (intOr hi es.length) K:=by
  unfold acut cuD cuL;generalize P.underlying t=d;cases d with
  | none=>rfl
  | some d =>
    cases d<;>try rfl
    simp only;cases intOr lo 0<;>cases intOr hi es.length<;>rfl
/-! ### operations in a head -/
section
variable {P:Program} {ev:Operand→AV} {σ:Store} {K:AV→Prop}
theorem ps_move (x:Operand):pstep P ev σ K (.move x)=K (ev x):=propext Iff.rfl
theorem ps_assign (x:Operand):pstep P ev σ K (.assign x)=K (ev x):=propext Iff.rfl
theorem ps_pick (c a b:Operand):pstep P ev σ K (.pick c a b)=pkK (ev c) (ev a) (ev b) K:=by
  unfold pkK;simp only [pstep];cases ev c<;>try rfl
def bxP (cs:Option (List AV))(K:AV→Prop):Prop:=match cs with | some cs=>cs.all AV.one=true∧K (.ro cs) | none=>False
theorem bxP_some (cs:List AV):bxP (some cs) K=(cs.all AV.one=true∧K (.ro cs)):=propext Iff.rfl
theorem ps_box (T:TypeId)(x:Operand):pstep P ev σ K (.box T x)=bxP (ev x).cells K:=propext Iff.rfl
theorem ps_build (t:TypeId)(ps:List (Nat×Operand)):pstep P ev σ K (.build t ⟨ps⟩)=abuild P t (ps.map fun p=>(p.1,ev p.2)) K:=propext Iff.rfl
theorem ps_buildSlice (t:TypeId)(n:Nat)(ps:List (Nat×Operand)):pstep P ev σ K (.buildSlice t n ⟨ps⟩)=abuildSlice P t n (ps.map fun p=>(p.1,ev p.2)) K:=propext Iff.rfl
theorem ps_load (T:TypeId)(x:Operand):pstep P ev σ K (.load T x)=aload P T (ev x) σ K:=propext Iff.rfl
theorem ps_nilCheck (x:Operand):pstep P ev σ K (.nilCheck x)=anil (ev x) K:=propext Iff.rfl
theorem ps_binOp (op:BinOp)(T T':TypeId)(x y:Operand):pstep P ev σ K (.binOp op T x y T')=pbin P op T (ev x) (ev y) y K:=propext Iff.rfl
theorem ps_unOp (op:UnOp)(T:TypeId)(x:Operand):pstep P ev σ K (.unOp op T x)=aun op (ev x) K:=propext Iff.rfl
theorem ps_convert (s d:TypeId)(x:Operand):pstep P ev σ K (.convert s d x)=aconv P s d (ev x) K:=propext Iff.rfl
theorem ps_makeInterface (T:TypeId)(x:Operand):pstep P ev σ K (.makeInterface T x)=aiface P T (ev x) K:=propext Iff.rfl
theorem ps_makeFunc (fn:Fn)(f c:List Operand):pstep P ev σ K (.makeFunc fn ⟨f⟩ ⟨c⟩)=mfK fn (AV.toVals (f.map ev)) (AV.toVals (c.map ev)) K:=propext Iff.rfl
theorem ps_slice (t:TypeId)(x:Operand)(lo hi mx:Option Operand):pstep P ev σ K (.slice t x lo hi mx)=acut P t (ev x) (lo.map ev) (hi.map ev) (mx.map ev) K:=propext Iff.rfl
theorem ps_fieldAddr (s:TypeId)(x:Operand)(f:Nat):pstep P ev σ K (.fieldAddr s x f)=afield P s (ev x) f K:=propext Iff.rfl
theorem ps_field (s:TypeId)(x:Operand)(f:Nat):pstep P ev σ K (.field s x f)=afieldv P s (ev x) f K:=propext Iff.rfl
theorem ps_indexAddr (t:TypeId)(x i:Operand):pstep P ev σ K (.indexAddr t x i)=aindexAddr P t (ev x) (ev i) K:=propext Iff.rfl
theorem ps_index (t:TypeId)(x i:Operand):pstep P ev σ K (.index t x i)=aindex P t (ev x) (ev i) K:=propext Iff.rfl
theorem ps_extract (x:Operand)(i:Nat):pstep P ev σ K (.extract x i)=aextract (ev x) i K:=propext Iff.rfl
/-- A call in a head: its value,whatever more the store may hold. -/
def PCall (P:Program)(f:AV)(args:List AV)(σ:Store)(K:AV→Prop):Prop:=∃ v,(∀ σ',Sees σ σ'→AInvoke P f args σ' (kOnly v σ'))∧K v
theorem PCall.mk {f:AV}{args:List AV}{v:AV}(h:∀ σ',Sees σ σ'→AInvoke P f args σ' (kOnly v σ'))(hk:K v):PCall P f args σ K:=⟨v,h,hk⟩
theorem ps_call (f:Operand)(args:List Operand)(ts:Array TypeId):pstep P ev σ K (.call ⟨.value f,⟨args⟩,ts⟩)=PCall P (ev f) (args.map ev) σ K:=propext Iff.rfl
def pbt (P:Program)(b:Builtin)(ts:List TypeId)(args:List AV)(σ:Store)(K:AV→Prop):Prop :=
  match b,ts,args with
  | .len,[t],[x]=>alen P t x σ K
  | .max,_,xs=>amm true xs K
  | .min,_,xs=>amm false xs K
  | _,_,_=>False
theorem pbt_len (t:TypeId)(x:AV):pbt P .len [t] [x] σ K=alen P t x σ K:=propext Iff.rfl
theorem pbt_max (ts:List TypeId)(xs:List AV):pbt P .max ts xs σ K=amm true xs K:=propext Iff.rfl
theorem pbt_min (ts:List TypeId)(xs:List AV):pbt P .min ts xs σ K=amm false xs K:=propext Iff.rfl
theorem ps_builtin (b:Builtin)(args:List Operand)(ts:List TypeId):pstep P ev σ K (.call ⟨.builtin b,⟨args⟩,⟨ts⟩⟩)=pbt P b ts (args.map ev) σ K:=by
  cases b<;>try rfl
  simp only [pstep,pbt]
  cases ts with
  | nil=>rfl
  | cons t r => cases r<;>cases args<;>try rfl
                all_goals (rename_i a b;cases b<;>rfl)
theorem pbin_eq (op:BinOp)(T:TypeId)(x y:AV)(yc:Operand){v:AV}(h:abin P op T x y (opC yc)=some v):pbin P op T x y yc K=K v:=by
  simp only [pbin,h]
theorem pb_add (P:Program)(T:TypeId)(k:IntKind)(a b:Int)(yc:Operand)(K:AV→Prop):pbin P .add T (.val (.int k a)) (.val (.int k b)) yc K=K (.val (.int k (k.wrap (a+b)))):=pbin_eq _ _ _ _ _ (by simp [abin])
theorem pb_sub (P:Program)(T:TypeId)(k:IntKind)(a b:Int)(yc:Operand)(K:AV→Prop):pbin P .sub T (.val (.int k a)) (.val (.int k b)) yc K=K (.val (.int k (k.wrap (a-b)))):=pbin_eq _ _ _ _ _ (by simp [abin])
theorem pb_mul (P:Program)(T:TypeId)(k:IntKind)(a b:Int)(yc:Operand)(K:AV→Prop):pbin P .mul T (.val (.int k a)) (.val (.int k b)) yc K=K (.val (.int k (k.wrap (a * b)))):=pbin_eq _ _ _ _ _ (by simp [abin])
theorem pb_lss (P:Program)(T:TypeId)(k:IntKind)(a b:Int)(yc:Operand)(K:AV→Prop):pbin P .lss T (.val (.int k a)) (.val (.int k b)) yc K=K (.val (.bool (decide (a<b)))):=pbin_eq _ _ _ _ _ (by simp [abin])
theorem pb_leq (P:Program)(T:TypeId)(k:IntKind)(a b:Int)(yc:Operand)(K:AV→Prop):pbin P .leq T (.val (.int k a)) (.val (.int k b)) yc K=K (.val (.bool (decide (a≤b)))):=pbin_eq _ _ _ _ _ (by simp [abin])
theorem pb_gtr (P:Program)(T:TypeId)(k:IntKind)(a b:Int)(yc:Operand)(K:AV→Prop):pbin P .gtr T (.val (.int k a)) (.val (.int k b)) yc K=K (.val (.bool (decide (b<a)))):=pbin_eq _ _ _ _ _ (by simp [abin])
theorem pb_geq (P:Program)(T:TypeId)(k:IntKind)(a b:Int)(yc:Operand)(K:AV→Prop):pbin P .geq T (.val (.int k a)) (.val (.int k b)) yc K=K (.val (.bool (decide (b≤a)))):=pbin_eq _ _ _ _ _ (by simp [abin])
theorem pb_eql (P:Program)(T:TypeId)(k:IntKind)(a b:Int)(yc:Operand)(K:AV→Prop):pbin P .eql T (.val (.int k a)) (.val (.int k b)) yc K=K (.val (.bool (decide (a=b)))):=pbin_eq _ _ _ _ _ (by simp [abin])
theorem pb_neq (P:Program)(T:TypeId)(k:IntKind)(a b:Int)(yc:Operand)(K:AV→Prop):pbin P .neq T (.val (.int k a)) (.val (.int k b)) yc K=K (.val (.bool (!decide (a=b)))):=pbin_eq _ _ _ _ _ (by simp [abin])
theorem pb_quo (P:Program)(T:TypeId)(k:IntKind)(a b:Int)(yc:Operand)(K:AV→Prop)(h:b≠0):pbin P .quo T (.val (.int k a)) (.val (.int k b)) yc K=K (.val (.int k (k.wrap (a.tdiv b)))):=pbin_eq _ _ _ _ _ (by simp [abin,opC,h])
theorem pb_rem (P:Program)(T:TypeId)(k:IntKind)(a b:Int)(yc:Operand)(K:AV→Prop)(h:b≠0):pbin P .rem T (.val (.int k a)) (.val (.int k b)) yc K=K (.val (.int k (a.tmod b))):=pbin_eq _ _ _ _ _ (by simp [abin,opC,h])
theorem pb_shl (P:Program)(T:TypeId)(k k':IntKind)(a b:Int)(yc:Operand)(K:AV→Prop)(h:0≤b):pbin P .shl T (.val (.int k a)) (.val (.int k' b)) yc K=K (.val (.int k (k.wrap (a * 2 ^ min b.toNat k.bits)))):=pbin_eq _ _ _ _ _ (by simp [abin,opC,h])
theorem pb_shr (P:Program)(T:TypeId)(k k':IntKind)(a b:Int)(yc:Operand)(K:AV→Prop)(h:0≤b):pbin P .shr T (.val (.int k a)) (.val (.int k' b)) yc K=K (.val (.int k (a.fdiv (2 ^ min b.toNat k.bits)))):=pbin_eq _ _ _ _ _ (by simp [abin,opC,h])
theorem pb_xor (P:Program)(T:TypeId)(k:IntKind)(a b:Int)(yc:Operand)(K:AV→Prop):pbin P .xor T (.val (.int k a)) (.val (.int k b)) yc K=K (.val (.int k (k.wrap (BitVec.ofInt k.bits a ^^^ BitVec.ofInt k.bits b).toNat))):=pbin_eq _ _ _ _ _ (by simp [abin])
theorem pb_and (P:Program)(T:TypeId)(k:IntKind)(a b:Int)(yc:Operand)(K:AV→Prop):pbin P .and T (.val (.int k a)) (.val (.int k b)) yc K=K (.val (.int k (k.wrap (BitVec.ofInt k.bits a &&& BitVec.ofInt k.bits b).toNat))):=pbin_eq _ _ _ _ _ (by simp [abin])
theorem pb_seq (P:Program)(T:TypeId)(a b:ByteArray)(yc:Operand)(K:AV→Prop):pbin P .eql T (.val (.string a)) (.val (.string b)) yc K=K (.val (.bool (decide (a=b)))):=pbin_eq _ _ _ _ _ (by simp [abin])
theorem pb_sne (P:Program)(T:TypeId)(a b:ByteArray)(yc:Operand)(K:AV→Prop):pbin P .neq T (.val (.string a)) (.val (.string b)) yc K=K (.val (.bool (!decide (a=b)))):=pbin_eq _ _ _ _ _ (by simp [abin])
theorem pb_slt (P:Program)(T:TypeId)(a b:ByteArray)(yc:Operand)(K:AV→Prop):pbin P .lss T (.val (.string a)) (.val (.string b)) yc K=K (.val (.bool (decide (Op.bytesLess a.data.toList b.data.toList=true)))):=pbin_eq _ _ _ _ _ (by simp [abin])
theorem pb_sgt (P:Program)(T:TypeId)(a b:ByteArray)(yc:Operand)(K:AV→Prop):pbin P .gtr T (.val (.string a)) (.val (.string b)) yc K=K (.val (.bool (!decide (Op.bytesLess a.data.toList b.data.toList=true∨a=b)))):=pbin_eq _ _ _ _ _ (by simp [abin])
theorem pb_beq (P:Program)(T:TypeId)(a b:Bool)(yc:Operand)(K:AV→Prop)(h:P.underlying T=some .bool):pbin P .eql T (.val (.bool a)) (.val (.bool b)) yc K=K (.val (.bool (decide (a=b)))):=pbin_eq _ _ _ _ _ (by simp [abin,opC,h])
theorem pb_bne (P:Program)(T:TypeId)(a b:Bool)(yc:Operand)(K:AV→Prop)(h:P.underlying T=some .bool):pbin P .neq T (.val (.bool a)) (.val (.bool b)) yc K=K (.val (.bool (!decide (a=b)))):=pbin_eq _ _ _ _ _ (by simp [abin,opC,h])
theorem pb_nilne (P:Program)(T:TypeId)(c:Value)(K:AV→Prop)(h:isIfaceB (P.underlying T)=true):pbin P .neq T (.val .nilIface) (.val .nilIface) (.const c) K=K (.val (.bool false)):=pbin_eq _ _ _ _ _ (by simp [abin,opC,h])
theorem pb_nileq (P:Program)(T:TypeId)(c:Value)(K:AV→Prop)(h:isIfaceB (P.underlying T)=true):pbin P .eql T (.val .nilIface) (.val .nilIface) (.const c) K=K (.val (.bool true)):=pbin_eq _ _ _ _ _ (by simp [abin,opC,h])
theorem pb_ifne (P:Program)(T t:TypeId)(v:Value)(yc:Operand)(K:AV→Prop)(h:isIfaceB (P.underlying T)=true):pbin P .neq T (.val (.iface t v)) (.val .nilIface) yc K=K (.val (.bool true)):=pbin_eq _ _ _ _ _ (by simp [abin,opC,h])
theorem pb_ifeq (P:Program)(T t:TypeId)(v:Value)(yc:Operand)(K:AV→Prop)(h:isIfaceB (P.underlying T)=true):pbin P .eql T (.val (.iface t v)) (.val .nilIface) yc K=K (.val (.bool false)):=pbin_eq _ _ _ _ _ (by simp [abin,opC,h])
end
/-! ### the words of a walk,all together -/
attribute [go_sem ↓]  avc_skip avc_region avc_draw avc_seqt avc_s0 avc_s1 avc_s2 avc_s3 avc_s4 avc_s5 avc_cond avc_block avc_loop avc_exit avc_ret aops_nil aops_one aops_grd kDo_some kDo_none kSkip_app as_move as_assign as_pick as_alloc as_box
attribute [go_sem ↓]  as_build as_buildSlice as_load as_store as_nilCheck as_binOp as_unOp as_convert as_makeInterface as_makeFunc as_makeSlice as_slice as_fieldAddr as_field as_indexAddr as_index as_extract as_typeAssert as_panic as_call
attribute [go_sem ↓]  as_appM as_makeMap as_mapUpdate as_insert as_lookup as_range as_next as_entry amakeMap_app as_builtin kRet_app kSto_app kRs_app kOp_ret kOp_pan kSeq_normal kSeq_ret kSeq_exit kSeq_panic kBlock_normal kBlock_ret kBlock_exit kBlock_panic kBody_normal kBody_ret kBody_panic aguard_eq ares_nil ares_tmp
attribute [go_sem ↓] sqA_t sqA_f adk_lo adk_hi amid_zero amid_none amid_succ kOb_app eqV_app oAnd_app kMid_ret kMid_pan oTrue_app
attribute [go_sem ↓]  ares_cell ahd_zero kTail_zero kTail_one kTail_two ahd_one ahd_grd hOne_app hSkip_app kPs_app aeff_one aeff_grd hEff_some hEff_none kEff_ret kEff_pan hEnd_app ps_move ps_assign ps_pick
attribute [go_sem ↓]  ps_box ps_build ps_buildSlice ps_load ps_nilCheck ps_binOp ps_unOp ps_convert ps_makeInterface ps_makeFunc ps_slice ps_fieldAddr ps_field ps_indexAddr ps_index ps_extract ps_call ps_builtin
attribute [go_sem]  pkK_true pkK_false pkK_dec alK_some bxK_some mfK_some pnK_iface inv_of acond_true acond_false acond_dec acond_ndec gAt_some gSlot_undef gSlot_tt gSlot_ff gSlot_tf gSlot_ft gSlot_dt gSlot_df
attribute [go_sem]  gSlot_nt gSlot_nf ofRes_one ofRes_nil ofRes_two args_app putO_some putO_none put_app of_nil of_cons ev_tmp ev_const ev_global ev_func lift_int lift_bool lift_string lift_nilIface lift_nilFunc
attribute [go_sem]  lift_slice lift_ptr lift_agg lift_map lift1_int lift1_bool lift1_string lift1_slice lift1_nilFunc lift1_nilIface lift1_ptr lift1_map zeroCs_agg zeroCs_int zeroCs_bool zeroCs_string zeroCs_slice zeroCs_nilFunc zeroCs_nilIface zeroCs_ptr
attribute [go_sem]  zeroCs_map cells_int cells_bool cells_string cells_ptr cells_map cells_func cells_nilFunc cells_iface cells_nilIface cells_slice cells_list cells_ro cells_agg one_int one_bool one_string one_ptr one_map one_func
attribute [go_sem]  one_nilFunc one_iface one_nilIface one_slice one_list one_ro contains_memB memB abox_mu abox_ro get_same get_other get_fresh set_same set_other set_fresh Option.isSome_some del_cons oK_some lK_cells aload_ro aload_ptr stK_some astore_ptr fKr_some
attribute [go_sem]  fKp_some afield_ro afield_ptr ixL_some aindexAddr_list ixS_some aindexAddr_slice aindexAddr_ap aindexAddr_ar ixA_ptr ixA_ro nlK_some acK_int bsZ_some bsE_some apE_some apZ_full apZ_tip aappend_eq lnL_slice
attribute [go_sem]  cuS_some cuD_slice ixR_some aindex_str fvK_some afieldv_agg ab_add ab_sub ab_mul ab_lss ab_leq ab_gtr ab_geq ab_eql ab_neq ab_quo ab_rem ab_shl ab_shr ab_xor
attribute [go_sem]  ab_and ab_seq ab_sne ab_slt ab_sgt ab_beq ab_bne ab_nilne ab_nileq ab_ifne ab_ifeq ab_leq_nil ab_lne_nil aconv_int aun_not aun_neg ifK_some aiface_eq aassert_hit aextract_tup
attribute [go_sem]  bdK_some abuild_eq bsK_some abuildSlice_eq alen_list alen_str alen_slice acut_str cuL_some acut_list intOr_none intOr_some amm_max amm_min anil_ptr anil_func anil_ro abt_append abt_len abt_max
attribute [go_sem]  abt_min apick splice afill allCells AV.toVal AV.toVals Value.cells if_true if_false List.map_cons List.map_nil List.getD_cons_zero List.getD_cons_succ List.getD_nil List.length_cons List.length_nil List.all_cons List.all_nil Bool.and_self
attribute [go_sem]  Bool.true_and Bool.and_true List.take_succ_cons List.take_zero List.take_nil List.drop_succ_cons List.drop_zero List.drop_nil List.cons_append List.nil_append List.append_nil List.head?_cons List.getElem?_cons_zero List.getElem?_cons_succ List.getElem?_nil List.getElem?_toArray Option.bind_some Option.bind_none Option.map_some Option.map_none
attribute [go_sem]  true_and and_true forall_const ne_eq not_false_eq_true not_true_eq_false false_implies true_implies Nat.zero_add Nat.add_zero Nat.le_refl eq_self Bool.not_true Bool.not_false Bool.true_eq_false Bool.false_eq_true imp_self implies_true List.size_toArray true_or
attribute [go_sem]  or_true adrK_mk drOf_cons sees_self bxP_some pbt_len pbt_max pbt_min pb_add pb_sub pb_mul pb_lss pb_leq pb_gtr pb_geq pb_eql pb_neq pb_quo pb_rem pb_shl
attribute [go_sem]  pb_shr pb_xor pb_and pb_seq pb_sne pb_slt pb_sgt pb_beq pb_bne pb_nilne pb_nileq pb_ifne pb_ifeq
end Go.Vx
