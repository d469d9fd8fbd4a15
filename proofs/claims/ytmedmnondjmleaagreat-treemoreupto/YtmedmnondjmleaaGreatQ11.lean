/- Part Q11 of the proof of treeMoreProved: the walk of the program on abstract values, and the plain law. -/
import Derived.Test.YtmedmnondjmleaaGreatQ10
set_option linter.unusedVariables false
set_option linter.unusedSimpArgs false
namespace Go.Vx
theorem DK (fr:Fr)(d:Nat)(v:AV)(i:Nat):(fr.put d v) i=if i=d then v else fr i:=rfl
theorem Io (fr:Fr)(d:Nat)(v:AV):fr.putO (some d) v=fr.put d v:=rfl
theorem Ip (fr:Fr)(v:AV):fr.putO none v=fr:=rfl
theorem E0 (as:List AV)(i:Nat):Fr.args as i=as.getD i (.val undef):=rfl
theorem of_nil (i:Nat):Fr.of [] i=.any:=rfl
theorem of_cons (j:Nat)(v:AV)(l:List (Nat×AV))(i:Nat):Fr.of ((j,v)::l) i=if i=j then v else Fr.of l i:=rfl
theorem Av (fr:Fr)(t:Nat):fr.ev (.tmp t)=fr t:=rfl
theorem Eg (fr:Fr)(v:Value):fr.ev (.const v)=cS v:=rfl
theorem Hi (fr:Fr)(g:Nat):fr.ev (.global g)=.val (.pointer (some ⟨g,0,none⟩)):=rfl
theorem Ct (fr:Fr)(g:Nat):fr.ev (.func g)=.val (.func (.func g) #[] #[]):=rfl
theorem Fo (k:IntKind)(n:Int):cS (.int k n)=.val (.int k n):=rfl
theorem II (b:Bool):cS (.bool b)=.val (.bool b):=rfl
theorem Mn (s:ByteArray):cS (.string s)=.val (.string s):=rfl
theorem Ps:cS .nilIface=.val .nilIface:=rfl
theorem O6:cS .nilFunc=.val .nilFunc:=rfl
theorem Kb:cS (.slice none 0 0)=.list .full 0 []:=rfl
theorem Fl (p:Option Addr):cS (.pointer p)=.val (.pointer p):=rfl
theorem Fp (l:List Value):cS (.agg ⟨l⟩)=.agg (l.map cM):=rfl
theorem IL (k:IntKind)(n:Int):cM (.int k n)=.val (.int k n):=rfl
theorem Kc (b:Bool):cM (.bool b)=.val (.bool b):=rfl
theorem O7 (s:ByteArray):cM (.string s)=.val (.string s):=rfl
theorem Mo:cM (.slice none 0 0)=.list .full 0 []:=rfl
theorem Pt:cM .nilFunc=.val .nilFunc:=rfl
theorem Qw:cM .nilIface=.val .nilIface:=rfl
theorem IJ (p:Option Addr):cM (.pointer p)=.val (.pointer p):=rfl
theorem IK (p:Option Nat):cM (.map p)=.val (.map p):=rfl
theorem Fm (p:Option Nat):cS (.map p)=.val (.map p):=rfl
theorem Lu (l:List Value):YM (.agg ⟨l⟩)=l.map cM:=rfl
theorem Lt (k:IntKind)(n:Int):YM (.int k n)=[.val (.int k n)]:=rfl
theorem NN (b:Bool):YM (.bool b)=[.val (.bool b)]:=rfl
theorem Pl (s:ByteArray):YM (.string s)=[.val (.string s)]:=rfl
theorem OA:YM (.slice none 0 0)=[.list .full 0 []]:=rfl
theorem RM:YM .nilFunc=[.val .nilFunc]:=rfl
theorem Rs:YM .nilIface=[.val .nilIface]:=rfl
theorem Lr (p:Option Addr):YM (.pointer p)=[.val (.pointer p)]:=rfl
theorem Ls (p:Option Nat):YM (.map p)=[.val (.map p)]:=rfl
def bE (P:Program)(mu:List Nat)(ops:Array Oper)(Q:Exit→Fr→Store→Prop)(σ:Store)(p:Nat×Nat)(l:List Oper)(fr:Fr):Prop:=adk P mu ops Q σ p.2 p.1 l fr
theorem CW (P:Program)(mu:List Nat)(ops:Array Oper)(Q:Exit→Fr→Store→Prop)(σ:Store)(m k:Nat)(l:List Oper)(fr:Fr):bE P mu ops Q σ (m,k) l fr=adk P mu ops Q σ k m l fr:=propext Iff.rfl
theorem AJ (P:Program)(mu:List Nat)(ops:Array Oper)(Q:Exit→Fr→Store→Prop)(σ:Store)(m k:Nat)(l:List Oper)(fr:Fr)(h:k<3):adk P mu ops Q σ k m l fr=ahd P mu ops Q σ k m l fr:=by unfold adk;rw [if_neg (by omega)]
def Bx:Store→Prop:=fun _=>True
theorem AK (P:Program)(mu:List Nat)(ops:Array Oper)(Q:Exit→Fr→Store→Prop)(σ:Store)(m k:Nat)(l:List Oper)(fr:Fr)(h:2<k):adk P mu ops Q σ k m l fr=RA P mu ops Q σ (m-(k-3)-1) (k-3) l Bx fr:=by unfold adk;rw [if_pos (by omega)];rfl
theorem Iz (σ:Store):Bx σ=True:=rfl
theorem HE (P:Program)(mu:List Nat)(ops:Array Oper)(Q:Exit→Fr→Store→Prop)(σ:Store)(m:Nat)(d:Nat)(op:Op)(ty:TypeId)(pos:String)(af:Array Edge)(r:List Oper)(O:Store→Prop)(fr:Fr) :
 RA P mu ops Q σ m 0 (⟨some d,op,ty,pos,af,none⟩::r) O fr=ZA P (mu.contains d) fr.ev σ (Kj P mu ops Q O m r fr (some d)) op:=by simp only [RA,true_and]
theorem HG (P:Program)(mu:List Nat)(ops:Array Oper)(Q:Exit→Fr→Store→Prop)(σ:Store)(m:Nat)(op:Op)(ty:TypeId)(pos:String)(af:Array Edge)(r:List Oper)(O:Store→Prop)(fr:Fr) :
 RA P mu ops Q σ m 0 (⟨none,op,ty,pos,af,none⟩::r) O fr=ZA P false fr.ev σ (Kj P mu ops Q O m r fr none) op:=by simp only [RA,true_and]
theorem HF (P:Program)(mu:List Nat)(ops:Array Oper)(Q:Exit→Fr→Store→Prop)(σ:Store)(m s:Nat)(d:Option Nat)(op:Op)(ty:TypeId)(pos:String)(af:Array Edge)(r:List Oper)(O:Store→Prop)(fr:Fr) :
 RA P mu ops Q σ m (s+1) (⟨d,op,ty,pos,af,none⟩::r) O fr=ZN P fr.ev σ (kOb P (RA P mu ops Q σ m s r) O fr d op) op:=by simp only [RA,true_and]
theorem Cg (P:Program)(k:(Store→Prop)→Fr→Prop)(O:Store→Prop)(fr:Fr)(d:Option Nat)(op:Op)(v:AV):kOb P k O fr d op v=k (Af P O fr op v) (fr.putO d v):=rfl
def eqV (v:AV):AV→Prop:=fun u=>u=v
theorem Cu (v u:AV):eqV v u=(u=v):=rfl
theorem Fb (P:Program)(O:Store→Prop)(fr:Fr)(op:Op)(v:AV)(σ':Store):Af P O fr op v σ'=(O σ'∧ZN P fr.ev σ' (eqV v) op):=rfl
theorem Fz (P:Program)(mu:List Nat)(ops:Array Oper)(Q:Exit→Fr→Store→Prop)(O:Store→Prop)(m:Nat)(r:List Oper)(fr:Fr)(d:Option Nat)(v:AV)(σ':Store):Kj P mu ops Q O m r fr d (.ret v) σ'=(O σ'∧ahd P mu ops Q σ' 0 m r (fr.putO d v)):=rfl
theorem FA (P:Program)(mu:List Nat)(ops:Array Oper)(Q:Exit→Fr→Store→Prop)(O:Store→Prop)(m:Nat)(r:List Oper)(fr:Fr)(d:Option Nat)(v:Value)(σ':Store):Kj P mu ops Q O m r fr d (.pan v) σ'=∀ fr',Q (.panic [{ v:=v,recovered:=false }]) fr' σ':=rfl
theorem Hl (i m k:Nat)(r:List (Nat×Nat×Nat))(id:Nat):Rw ((i,m,k)::r) id=if i=id then (m,k) else Rw r id:=rfl
theorem Dg (P:Program)(mu:List Nat)(ops:Array Oper)(Q:Exit→Fr→Store→Prop)(σ:Store)(k:Nat)(l:List Oper)(fr:Fr):ahd P mu ops Q σ k 0 l fr=QA P mu ops Q σ l k fr:=propext Iff.rfl
theorem Kg (P:Program)(mu:List Nat)(ops:Array Oper)(Q:Exit→Fr→Store→Prop)(σ:Store)(l:List Oper)(fr:Fr):QA P mu ops Q σ l 0 fr=Xa P mu ops l Q fr σ:=propext Iff.rfl
theorem IU (P:Program)(mu:List Nat)(ops:Array Oper)(Q:Exit→Fr→Store→Prop)(σ:Store)(l:List Oper)(fr:Fr):QA P mu ops Q σ l 1 fr=Lf P mu ops false Q σ l fr:=propext Iff.rfl
theorem IR (P:Program)(mu:List Nat)(ops:Array Oper)(Q:Exit→Fr→Store→Prop)(σ:Store)(l:List Oper)(fr:Fr):QA P mu ops Q σ l 2 fr=Lf P mu ops true Q σ l fr:=propext Iff.rfl
theorem CT (P:Program)(mu:List Nat)(ops:Array Oper)(Q:Exit→Fr→Store→Prop)(σ:Store)(k m:Nat)(d:Option Nat)(op:Op)(ty:TypeId)(pos:String)(af:Array Edge)(r:List Oper)(fr:Fr) :
 ahd P mu ops Q σ k (m+1) (⟨d,op,ty,pos,af,none⟩::r) fr=ZN P fr.ev σ (kPs (ahd P mu ops Q σ k m r) fr d) op:=propext Iff.rfl
theorem CU (P:Program)(mu:List Nat)(ops:Array Oper)(Q:Exit→Fr→Store→Prop)(σ:Store)(k m:Nat)(d:Option Nat)(op:Op)(ty:TypeId)(pos:String)(af:Array Edge)(g:Nat×Bool)(r:List Oper)(fr:Fr) :
 ahd P mu ops Q σ k (m+1) (⟨d,op,ty,pos,af,some g⟩::r) fr=XN ops (some g) fr (Cj P (ahd P mu ops Q σ k m r) σ ⟨d,op,ty,pos,af,some g⟩) (JM (ahd P mu ops Q σ k m r) d):=propext Iff.rfl
theorem FO (P:Program)(k:Fr→Prop)(σ:Store)(d:Option Nat)(op:Op)(ty:TypeId)(pos:String)(af:Array Edge)(g:Option (Nat×Bool))(fr:Fr):Cj P k σ ⟨d,op,ty,pos,af,g⟩ fr=ZN P fr.ev σ (kPs k fr d) op:=propext Iff.rfl
theorem I7 (k:Fr→Prop)(d:Option Nat)(fr:Fr):JM k d fr=k (fr.putO d (.val undef)):=propext Iff.rfl
theorem Cd (k:Fr→Prop)(fr:Fr)(d:Option Nat)(v:AV):kPs k fr d v=k (fr.putO d v):=propext Iff.rfl
theorem Di (P:Program)(mu:List Nat)(ops:Array Oper)(fb:Bool)(Q:Exit→Fr→Store→Prop)(σ:Store)(d:Option Nat)(op:Op)(ty:TypeId)(pos:String)(af:Array Edge)(r:List Oper)(fr:Fr) :
 Lf P mu ops fb Q σ (⟨d,op,ty,pos,af,none⟩::r) fr=FQ P mu (Xa P mu ops r) Q fb σ ⟨d,op,ty,pos,af,none⟩ fr:=propext Iff.rfl
theorem Dj (P:Program)(mu:List Nat)(ops:Array Oper)(fb:Bool)(Q:Exit→Fr→Store→Prop)(σ:Store)(d:Option Nat)(op:Op)(ty:TypeId)(pos:String)(af:Array Edge)(g:Nat×Bool)(r:List Oper)(fr:Fr) :
 Lf P mu ops fb Q σ (⟨d,op,ty,pos,af,some g⟩::r) fr=XN ops (some g) fr (FQ P mu (Xa P mu ops r) Q fb σ ⟨d,op,ty,pos,af,some g⟩) (As (Xa P mu ops r) Q σ d):=propext Iff.rfl
theorem I8 (P:Program)(mu:List Nat)(k:((Exit→Fr→Store→Prop)→Fr→Store→Prop))(Q:Exit→Fr→Store→Prop)(fb:Bool)(σ:Store)(d:Nat)(op:Op)(ty:TypeId)(pos:String)(af:Array Edge)(g:Option (Nat×Bool))(fr:Fr) :
 FQ P mu k Q fb σ ⟨some d,op,ty,pos,af,g⟩ fr=ZA P (mu.contains d) fr.ev σ (I0 k Q fb fr (some d) σ) op:=propext Iff.rfl
theorem I9 (P:Program)(mu:List Nat)(k:((Exit→Fr→Store→Prop)→Fr→Store→Prop))(Q:Exit→Fr→Store→Prop)(fb:Bool)(σ:Store)(op:Op)(ty:TypeId)(pos:String)(af:Array Edge)(g:Option (Nat×Bool))(fr:Fr) :
 FQ P mu k Q fb σ ⟨none,op,ty,pos,af,g⟩ fr=ZA P false fr.ev σ (I0 k Q fb fr none σ) op:=propext Iff.rfl
theorem FB (k:((Exit→Fr→Store→Prop)→Fr→Store→Prop))(Q:Exit→Fr→Store→Prop)(fb:Bool)(fr:Fr)(d:Option Nat)(σ σ':Store)(v:AV):I0 k Q fb fr d σ (.ret v) σ'=((fb=true∨XY σ σ')∧k Q (fr.putO d v) σ'):=propext Iff.rfl
theorem FC (k:((Exit→Fr→Store→Prop)→Fr→Store→Prop))(Q:Exit→Fr→Store→Prop)(fb:Bool)(fr:Fr)(d:Option Nat)(σ σ':Store)(v:Value):I0 k Q fb fr d σ (.pan v) σ'=False:=propext Iff.rfl
theorem FP (k:((Exit→Fr→Store→Prop)→Fr→Store→Prop))(Q:Exit→Fr→Store→Prop)(σ:Store)(d:Option Nat)(fr:Fr):As k Q σ d fr=k Q (fr.putO d (.val undef)) σ:=propext Iff.rfl
theorem Ig (σ:Store):XY σ σ=True:=eq_true (.refl σ)
theorem EK (P:Program)(n:Nat)(ds:List Deferred)(mu:List Nat)(dr:List (Nat×Nat×Nat))(Q:Exit→Fr→Store→Prop)(fr:Fr)(σ:Store):avc P n ds mu dr .skip Q fr σ=Q .normal fr σ:=propext Iff.rfl
theorem KJ (P:Program)(n:Nat)(ds:List Deferred)(mu:List Nat)(dr:List (Nat×Nat×Nat))(id:Nat)(l:List Oper)(Q:Exit→Fr→Store→Prop)(fr:Fr)(σ:Store):avc P n ds mu dr (.region id ⟨l⟩ false) Q fr σ=Xa P mu ⟨l⟩ l Q fr σ:=propext Iff.rfl
theorem EO (P:Program)(n:Nat)(ds:List Deferred)(mu:List Nat)(dr:List (Nat×Nat×Nat))(id:Nat)(l:List Oper)(Q:Exit→Fr→Store→Prop)(fr:Fr)(σ:Store):avc P n ds mu dr (.region id ⟨l⟩ true) Q fr σ=bE P mu ⟨l⟩ Q σ (Rw dr id) l fr:=propext Iff.rfl
def sqA (P:Program)(n:Nat)(ds:List Deferred)(mu:List Nat)(dr:List (Nat×Nat×Nat))(r:Nat×Nat)(a b:Code)(Q:Exit→Fr→Store→Prop)(fr:Fr)(σ:Store):Prop :=
 if 1000≤r.1 then AWp P n ds (.seq a b) Q fr σ else avc P n ds mu dr a (UF (avc P n ds mu dr b) Q) fr σ
theorem aM (P:Program)(n:Nat)(ds:List Deferred)(mu:List Nat)(dr:List (Nat×Nat×Nat))(m k:Nat)(a b:Code)(Q:Exit→Fr→Store→Prop)(fr:Fr)(σ:Store)(h:999<m):sqA P n ds mu dr (m,k) a b Q fr σ=AWp P n ds (.seq a b) Q fr σ:=by unfold sqA;rw [if_pos (by simp only;omega)]
theorem aN (P:Program)(n:Nat)(ds:List Deferred)(mu:List Nat)(dr:List (Nat×Nat×Nat))(m k:Nat)(a b:Code)(Q:Exit→Fr→Store→Prop)(fr:Fr)(σ:Store)(h:m<1000):sqA P n ds mu dr (m,k) a b Q fr σ=avc P n ds mu dr a (UF (avc P n ds mu dr b) Q) fr σ:=by unfold sqA;rw [if_neg (by simp only;omega)]
theorem W6 (P:Program)(n:Nat)(ds:List Deferred)(mu:List Nat)(dr:List (Nat×Nat×Nat))(a b:Code)(Q:Exit→Fr→Store→Prop)(fr:Fr)(σ:Store)(h:In dr a=false):avc P n ds mu dr (.seq a b) Q fr σ=avc P n ds mu dr a (UF (avc P n ds mu dr b) Q) fr σ:=by simp only [avc,h,Bool.false_eq_true,if_false]
theorem EL (P:Program)(n:Nat)(ds:List Deferred)(mu:List Nat)(dr:List (Nat×Nat×Nat))(id:Nat)(l:Array Oper)(b:Code)(Q:Exit→Fr→Store→Prop)(fr:Fr)(σ:Store):avc P n ds mu dr (.seq (.region id l true) b) Q fr σ=sqA P n ds mu dr (Rw dr id) (.region id l true) b Q fr σ:=by
 by_cases h:1000≤(Rw dr id).1
 ·unfold sqA;rw [if_pos h];simp only [avc,In,decide_eq_true h,if_true]
 ·unfold sqA;rw [if_neg h];exact W6 _ _ _ _ _ _ _ _ _ _ (by simp only [In];exact decide_eq_false h)
theorem AF (P:Program)(n:Nat)(ds:List Deferred)(mu:List Nat)(dr:List (Nat×Nat×Nat))(id:Nat)(l:Array Oper)(b:Code)(Q:Exit→Fr→Store→Prop)(fr:Fr)(σ:Store):avc P n ds mu dr (.seq (.region id l false) b) Q fr σ=avc P n ds mu dr (.region id l false) (UF (avc P n ds mu dr b) Q) fr σ:=W6 _ _ _ _ _ _ _ _ _ _ rfl
theorem AE (P:Program)(n:Nat)(ds:List Deferred)(mu:List Nat)(dr:List (Nat×Nat×Nat))(x y b:Code)(Q:Exit→Fr→Store→Prop)(fr:Fr)(σ:Store):avc P n ds mu dr (.seq (.seq x y) b) Q fr σ=avc P n ds mu dr (.seq x y) (UF (avc P n ds mu dr b) Q) fr σ:=W6 _ _ _ _ _ _ _ _ _ _ rfl
theorem AD (P:Program)(n:Nat)(ds:List Deferred)(mu:List Nat)(dr:List (Nat×Nat×Nat))(c:Operand)(x y b:Code)(Q:Exit→Fr→Store→Prop)(fr:Fr)(σ:Store):avc P n ds mu dr (.seq (.cond c x y) b) Q fr σ=avc P n ds mu dr (.cond c x y) (UF (avc P n ds mu dr b) Q) fr σ:=W6 _ _ _ _ _ _ _ _ _ _ rfl
theorem AC (P:Program)(n:Nat)(ds:List Deferred)(mu:List Nat)(dr:List (Nat×Nat×Nat))(i:Nat)(x b:Code)(Q:Exit→Fr→Store→Prop)(fr:Fr)(σ:Store):avc P n ds mu dr (.seq (.block i x) b) Q fr σ=avc P n ds mu dr (.block i x) (UF (avc P n ds mu dr b) Q) fr σ:=W6 _ _ _ _ _ _ _ _ _ _ rfl
theorem AB (P:Program)(n:Nat)(ds:List Deferred)(mu:List Nat)(dr:List (Nat×Nat×Nat))(x b:Code)(Q:Exit→Fr→Store→Prop)(fr:Fr)(σ:Store):avc P n ds mu dr (.seq (.loop x) b) Q fr σ=avc P n ds mu dr (.loop x) (UF (avc P n ds mu dr b) Q) fr σ:=W6 _ _ _ _ _ _ _ _ _ _ rfl
theorem AA (P:Program)(n:Nat)(ds:List Deferred)(mu:List Nat)(dr:List (Nat×Nat×Nat))(b:Code)(Q:Exit→Fr→Store→Prop)(fr:Fr)(σ:Store):avc P n ds mu dr (.seq .skip b) Q fr σ=avc P n ds mu dr .skip (UF (avc P n ds mu dr b) Q) fr σ:=W6 _ _ _ _ _ _ _ _ _ _ rfl
theorem EP (P:Program)(n:Nat)(ds:List Deferred)(mu:List Nat)(dr:List (Nat×Nat×Nat))(c:Operand)(a b:Code)(Q:Exit→Fr→Store→Prop)(fr:Fr)(σ:Store):avc P n ds mu dr (.cond c a b) Q fr σ=US (fr.ev c) (avc P n ds mu dr a) (avc P n ds mu dr b) Q fr σ:=propext Iff.rfl
theorem Hw (P:Program)(n:Nat)(ds:List Deferred)(mu:List Nat)(dr:List (Nat×Nat×Nat))(id:Nat)(a:Code)(Q:Exit→Fr→Store→Prop)(fr:Fr)(σ:Store):avc P n ds mu dr (.block id a) Q fr σ=avc P n ds mu dr a (V6 id Q) fr σ:=propext Iff.rfl
theorem EM (P:Program)(n:Nat)(ds:List Deferred)(mu:List Nat)(dr:List (Nat×Nat×Nat))(a:Code)(Q:Exit→Fr→Store→Prop)(fr:Fr)(σ:Store):avc P n ds mu dr (.loop a) Q fr σ=AWp P n ds (.loop a) Q fr σ:=propext Iff.rfl
theorem EN (P:Program)(n:Nat)(ds:List Deferred)(mu:List Nat)(dr:List (Nat×Nat×Nat))(id:Nat)(Q:Exit→Fr→Store→Prop)(fr:Fr)(σ:Store):avc P n ds mu dr (.exit id) Q fr σ=Q (.exit id) fr σ:=propext Iff.rfl
theorem CB (P:Program)(n:Nat)(ds:List Deferred)(mu:List Nat)(dr:List (Nat×Nat×Nat))(Q:Exit→Fr→Store→Prop)(fr:Fr)(σ:Store):avc P n ds mu dr .ret Q fr σ=Q .ret fr σ:=propext Iff.rfl
theorem ZV (ops:Array Oper)(fr:Fr)(A B:Fr→Prop):XN ops none fr A B=A fr:=propext Iff.rfl
theorem Ce (k:((Exit→Fr→Store→Prop)→Fr→Store→Prop))(Q:Exit→Fr→Store→Prop)(fr:Fr)(d:Option Nat)(v:AV)(σ:Store):kOp k Q fr d (.ret v) σ=k Q (fr.putO d v) σ:=propext Iff.rfl
theorem Cf (k:((Exit→Fr→Store→Prop)→Fr→Store→Prop))(Q:Exit→Fr→Store→Prop)(fr:Fr)(d:Option Nat)(v:Value)(σ:Store):kOp k Q fr d (.pan v) σ=Q (.panic [{ v:=v,recovered:=false }]) fr σ:=propext Iff.rfl
theorem Ms (k:((Exit→Fr→Store→Prop)→Fr→Store→Prop))(Q:Exit→Fr→Store→Prop)(fr:Fr)(σ:Store):UF k Q .normal fr σ=k Q fr σ:=propext Iff.rfl
theorem Fw (k:((Exit→Fr→Store→Prop)→Fr→Store→Prop))(Q:Exit→Fr→Store→Prop)(fr:Fr)(σ:Store):UF k Q .ret fr σ=Q .ret fr σ:=propext Iff.rfl
theorem IW (k:((Exit→Fr→Store→Prop)→Fr→Store→Prop))(Q:Exit→Fr→Store→Prop)(i:Nat)(fr:Fr)(σ:Store):UF k Q (.exit i) fr σ=Q (.exit i) fr σ:=propext Iff.rfl
theorem Ki (k:((Exit→Fr→Store→Prop)→Fr→Store→Prop))(Q:Exit→Fr→Store→Prop)(c:List PanicEntry)(fr:Fr)(σ:Store):UF k Q (.panic c) fr σ=Q (.panic c) fr σ:=propext Iff.rfl
theorem Pu (id:Nat)(Q:Exit→Fr→Store→Prop)(fr:Fr)(σ:Store):V6 id Q .normal fr σ=Q .normal fr σ:=propext Iff.rfl
theorem Km (id:Nat)(Q:Exit→Fr→Store→Prop)(fr:Fr)(σ:Store):V6 id Q .ret fr σ=Q .ret fr σ:=propext Iff.rfl
theorem My (id:Nat)(Q:Exit→Fr→Store→Prop)(i:Nat)(fr:Fr)(σ:Store):V6 id Q (.exit i) fr σ=if i=id then Q .normal fr σ else Q (.exit i) fr σ:=propext Iff.rfl
theorem Nb (id:Nat)(Q:Exit→Fr→Store→Prop)(c:List PanicEntry)(fr:Fr)(σ:Store):V6 id Q (.panic c) fr σ=Q (.panic c) fr σ:=propext Iff.rfl
theorem Na (P:Program)(rs:List ResultVar)(R:ZQ→Store→Prop)(fr:Fr)(σ:Store):Mx P rs R .normal fr σ=Tb P rs fr σ fun l=>Tz R (cW l) σ:=propext Iff.rfl
theorem I1 (P:Program)(rs:List ResultVar)(R:ZQ→Store→Prop)(fr:Fr)(σ:Store):Mx P rs R .ret fr σ=Tb P rs fr σ fun l=>Tz R (cW l) σ:=propext Iff.rfl
theorem Mw (P:Program)(rs:List ResultVar)(R:ZQ→Store→Prop)(pv:Value)(fr:Fr)(σ:Store):Mx P rs R (.panic [{ v:=pv,recovered:=false }]) fr σ=HU R pv σ:=by
 simp only [Mx,eq_iff_iff]
 constructor
 ·rintro ⟨x,hx,h⟩
  injection hx with hx _
  injection hx with hx
  subst hx
  exact h
 ·intro h;exact ⟨_,rfl,h⟩
theorem K2 (A B:((Exit→Fr→Store→Prop)→Fr→Store→Prop))(Q:Exit→Fr→Store→Prop)(fr:Fr)(σ:Store):US (.val (.bool true)) A B Q fr σ=A Q fr σ:=by simp [US]
theorem Lj (A B:((Exit→Fr→Store→Prop)→Fr→Store→Prop))(Q:Exit→Fr→Store→Prop)(fr:Fr)(σ:Store):US (.val (.bool false)) A B Q fr σ=B Q fr σ:=by simp [US]
theorem HR (p:Prop)[Decidable p](A B:((Exit→Fr→Store→Prop)→Fr→Store→Prop))(Q:Exit→Fr→Store→Prop)(fr:Fr)(σ:Store):US (.val (.bool (decide p))) A B Q fr σ=((p→A Q fr σ)∧(¬ p→B Q fr σ)):=by simp [US]
theorem K3 (p:Prop)[Decidable p](A B:((Exit→Fr→Store→Prop)→Fr→Store→Prop))(Q:Exit→Fr→Store→Prop)(fr:Fr)(σ:Store):US (.val (.bool (!decide p))) A B Q fr σ=((¬ p→A Q fr σ)∧(p→B Q fr σ)):=by simp [US]
theorem Fx (K:ZQ→Store→Prop)(σ:Store)(v:AV):Y4 K σ v=K (.ret v) σ:=propext Iff.rfl
theorem Fv (K:ZQ→Store→Prop)(σ:Store):Kh K σ=K (.ret .any) σ:=propext Iff.rfl
theorem Cc (K:ZQ→Store→Prop)(v:AV)(σ:Store):kRs K v σ=K (.ret v) σ:=propext Iff.rfl
theorem IV (k:((Exit→Fr→Store→Prop)→Fr→Store→Prop))(Q:Exit→Fr→Store→Prop)(σ:Store)(d:Option Nat)(fr:Fr):Oc k Q σ d fr=k Q (fr.putO d (.val undef)) σ:=propext Iff.rfl
theorem FD (P:Program)(mu:List Nat)(k:((Exit→Fr→Store→Prop)→Fr→Store→Prop))(Q:Exit→Fr→Store→Prop)(σ:Store)(d:Nat)(op:Op)(ty:TypeId)(pos:String)(af:Array Edge)(g:Option (Nat×Bool))(fr:Fr) :
 kDo P mu k Q σ ⟨some d,op,ty,pos,af,g⟩ fr=ZA P (mu.contains d) fr.ev σ (kOp k Q fr (some d)) op:=propext Iff.rfl
theorem FE (P:Program)(mu:List Nat)(k:((Exit→Fr→Store→Prop)→Fr→Store→Prop))(Q:Exit→Fr→Store→Prop)(σ:Store)(op:Op)(ty:TypeId)(pos:String)(af:Array Edge)(g:Option (Nat×Bool))(fr:Fr) :
 kDo P mu k Q σ ⟨none,op,ty,pos,af,g⟩ fr=ZA P false fr.ev σ (kOp k Q fr none) op:=propext Iff.rfl
theorem E7 (P:Program)(mu:List Nat)(ops:Array Oper)(Q:Exit→Fr→Store→Prop)(fr:Fr)(σ:Store):Xa P mu ops [] Q fr σ=Q .normal fr σ:=propext Iff.rfl
theorem E6 (P:Program)(mu:List Nat)(ops:Array Oper)(r:List Oper)(Q:Exit→Fr→Store→Prop)(d:Option Nat)(op:Op)(ty:TypeId)(pos:String)(af:Array Edge)(fr:Fr)(σ:Store) :
 Xa P mu ops (⟨d,op,ty,pos,af,none⟩::r) Q fr σ=kDo P mu (Xa P mu ops r) Q σ ⟨d,op,ty,pos,af,none⟩ fr:=propext Iff.rfl
theorem E8 (P:Program)(mu:List Nat)(ops:Array Oper)(r:List Oper)(Q:Exit→Fr→Store→Prop)(d:Option Nat)(op:Op)(ty:TypeId)(pos:String)(af:Array Edge)(g:Nat×Bool)(fr:Fr)(σ:Store) :
 Xa P mu ops (⟨d,op,ty,pos,af,some g⟩::r) Q fr σ=XN ops (some g) fr (kDo P mu (Xa P mu ops r) Q σ ⟨d,op,ty,pos,af,some g⟩) (Oc (Xa P mu ops r) Q σ d):=propext Iff.rfl
theorem E3 (P:Program)(fr:Fr)(σ:Store)(K:List AV→Prop):Tb P [] fr σ K=K []:=propext Iff.rfl
theorem E2 (P:Program)(t:Nat)(r:List ResultVar)(fr:Fr)(σ:Store)(K:List AV→Prop):Tb P (.tmp t::r) fr σ K=Tb P r fr σ fun l=>K (fr t::l):=propext Iff.rfl
theorem HB (P:Program)(a T:Nat)(r:List ResultVar)(fr:Fr)(σ:Store)(K:List AV→Prop):Tb P (.cell a T::r) fr σ K=Wh P T (fr a) σ fun v=>Tb P r fr σ fun l=>K (v::l):=propext Iff.rfl
theorem Ix (v:AV):cW [v]=v:=rfl
theorem Iy:cW []=.tup []:=rfl
theorem Iw (a b:AV)(l:List AV):cW (a::b::l)=.tup (a::b::l):=rfl
theorem Ht (k:IntKind)(n:Int):AV.cells (.val (.int k n))=some [.val (.int k n)]:=rfl
theorem KG (b:Bool):AV.cells (.val (.bool b))=some [.val (.bool b)]:=rfl
theorem Nu (s:ByteArray):AV.cells (.val (.string s))=some [.val (.string s)]:=rfl
theorem Hr (p:Option Addr):AV.cells (.val (.pointer p))=some [.val (.pointer p)]:=rfl
theorem Hs (p:Option Nat):AV.cells (.val (.map p))=some [.val (.map p)]:=rfl
theorem KF (f:Fn)(a b:Array Value):AV.cells (.val (.func f a b))=some [.val (.func f a b)]:=rfl
theorem PC:AV.cells (.val .nilFunc)=some [.val .nilFunc]:=rfl
theorem MZ (t:Nat)(v:Value):AV.cells (.val (.iface t v))=some [.val (.iface t v)]:=rfl
theorem Q6:AV.cells (.val .nilIface)=some [.val .nilIface]:=rfl
theorem MY (a:Option Addr)(n c:Nat):AV.cells (.val (.slice a n c))=some [.val (.slice a n c)]:=rfl
theorem KE (r:Rt)(s:Nat)(es:List (List AV)):AV.cells (.list r s es)=some [.list r s es]:=rfl
theorem EA (cs:List AV):AV.cells (.ro cs)=some [.ro cs]:=rfl
theorem Hu (cs:List AV):AV.cells (.agg cs)=some cs:=rfl
theorem DY (k:IntKind)(n:Int):AV.one (.val (.int k n))=true:=rfl
theorem G9 (b:Bool):AV.one (.val (.bool b))=true:=rfl
theorem L5 (s:ByteArray):AV.one (.val (.string s))=true:=rfl
theorem DW (p:Option Addr):AV.one (.val (.pointer p))=true:=rfl
theorem DX (p:Option Nat):AV.one (.val (.map p))=true:=rfl
theorem G8 (f:Fn)(a b:Array Value):AV.one (.val (.func f a b))=true:=rfl
theorem Mf:AV.one (.val .nilFunc)=true:=rfl
theorem Iv (t:Nat)(v:Value):AV.one (.val (.iface t v))=true:=rfl
theorem O0:AV.one (.val .nilIface)=true:=rfl
theorem Iu (a:Option Addr)(n c:Nat):AV.one (.val (.slice a n c))=true:=rfl
theorem G5 (r:Rt)(s:Nat)(es:List (List AV)):AV.one (.list r s es)=true:=rfl
theorem Ae (cs:List AV):AV.one (.ro cs)=true:=rfl
def D7 (d:Nat):List Nat→Bool
 | []=>false
 | x::r=>if d=x then true else D7 d r
theorem PB (l:List Nat)(d:Nat):l.contains d=D7 d l:=by
 induction l with
 | nil=>rfl
 | cons x r ih=>simp only [List.contains_cons,ih,D7];split<;>simp_all
theorem C2 (cs:List AV)(σ:Store)(K:ZQ→Store→Prop):Pi true cs σ K=∀ b,Zx σ b→K (.ret (.val (.pointer (some ⟨b,0,none⟩)))) ((b,.cells cs)::σ):=propext Iff.rfl
theorem C1 (cs:List AV)(σ:Store)(K:ZQ→Store→Prop):Pi false cs σ K=(cs.all AV.one=true∧K (.ret (.ro cs)) σ):=propext Iff.rfl
theorem Zj (b:Nat)(x:AObj)(r:Store):Store.get ((b,x)::r) b=some x:=by simp [Store.get]
theorem Za {b' b:Nat}(h:b'≠b)(x:AObj)(r:Store):Store.get ((b',x)::r) b=Store.get r b:=by simp only [Store.get];rw [if_neg h]
theorem Zy {b b':Nat}{r:Store}(h:Zx r b)(g:(Store.get r b').isSome=true)(x:AObj):Store.get ((b,x)::r) b'=Store.get r b' :=
 Za (fun e=>by rw [← e,Zm h] at g;cases g) x r
theorem Yj (b:Nat)(x y:AObj)(r:Store):Store.set ((b,x)::r) b y=(b,y)::r:=by simp [Store.set]
theorem Zk {b' b:Nat}(h:b'≠b)(x y:AObj)(r:Store):Store.set ((b',x)::r) b y=(b',x)::Store.set r b y:=by simp only [Store.set];rw [if_neg h]
theorem Sp {b b':Nat}{r:Store}(h:Zx r b)(g:(Store.get r b').isSome=true)(x y:AObj):Store.set ((b,x)::r) b' y=(b,x)::Store.set r b' y :=
 Zk (fun e=>by rw [← e,Zm h] at g;cases g) x y r
theorem El (b':Nat)(x:AObj)(r:Store)(b:Nat):Store.del ((b',x)::r) b=if b'=b then r else (b',x)::Store.del r b:=rfl
def X8 (x:AV)(want:Bool)(A B:Fr→Prop)(fr:Fr)(d:Nat):Prop :=
 match x with
 | .val (.bool x)=>(x=want→A (fr.put d (.val (.bool want))))∧(x=(!want)→B (fr.put d (.val (.bool (!want)))))
 | .val (.tuple ⟨[]⟩)=>B fr
 | _=>False
def gAt (s:Option Nat)(want:Bool)(A B:Fr→Prop)(fr:Fr):Prop :=
 match s with
 | some d=>X8 (fr d) want A B fr d
 | none=>False
theorem HM (ops:Array Oper)(j:Nat)(want:Bool)(fr:Fr)(A B:Fr→Prop):XN ops (some (j,want)) fr A B=gAt ((ops[j]?).bind (·.dst)) want A B fr:=propext Iff.rfl
theorem F5 (d:Nat)(want:Bool)(A B:Fr→Prop)(fr:Fr):gAt (some d) want A B fr=X8 (fr d) want A B fr d:=propext Iff.rfl
theorem MH (want:Bool)(A B:Fr→Prop)(fr:Fr)(d:Nat):X8 (.val undef) want A B fr d=B fr:=propext Iff.rfl
theorem FV (A B:Fr→Prop)(fr:Fr)(d:Nat):X8 (.val (.bool true)) true A B fr d=A (fr.put d (.val (.bool true))):=by simp [X8]
theorem F0 (A B:Fr→Prop)(fr:Fr)(d:Nat):X8 (.val (.bool false)) false A B fr d=A (fr.put d (.val (.bool false))):=by simp [X8]
theorem FW (A B:Fr→Prop)(fr:Fr)(d:Nat):X8 (.val (.bool true)) false A B fr d=B (fr.put d (.val (.bool true))):=by simp [X8]
theorem FZ (A B:Fr→Prop)(fr:Fr)(d:Nat):X8 (.val (.bool false)) true A B fr d=B (fr.put d (.val (.bool false))):=by simp [X8]
theorem F3 (p:Prop)[Decidable p](A B:Fr→Prop)(fr:Fr)(d:Nat):X8 (.val (.bool (decide p))) true A B fr d=((p→A (fr.put d (.val (.bool true))))∧(¬ p→B (fr.put d (.val (.bool false))))):=by simp [X8]
theorem F4 (p:Prop)[Decidable p](A B:Fr→Prop)(fr:Fr)(d:Nat):X8 (.val (.bool (decide p))) false A B fr d=((¬ p→A (fr.put d (.val (.bool false))))∧(p→B (fr.put d (.val (.bool true))))):=by simp [X8]
theorem FX (p:Prop)[Decidable p](A B:Fr→Prop)(fr:Fr)(d:Nat):X8 (.val (.bool (!decide p))) true A B fr d=((¬ p→A (fr.put d (.val (.bool true))))∧(p→B (fr.put d (.val (.bool false))))):=by simp [X8]
theorem FY (p:Prop)[Decidable p](A B:Fr→Prop)(fr:Fr)(d:Nat):X8 (.val (.bool (!decide p))) false A B fr d=((p→A (fr.put d (.val (.bool false))))∧(¬ p→B (fr.put d (.val (.bool true))))):=by simp [X8]
def oK (o:Option AV)(K:AV→Prop):Prop :=
 match o with
 | some v=>K v
 | none=>False
theorem JB (v:AV)(K:AV→Prop):oK (some v) K=K v:=propext Iff.rfl
def lK (P:Program)(T:TypeId)(o:Nat)(x:Option AObj)(K:AV→Prop):Prop :=
 match x with
 | some (.cells cs)=>oK (Vp P T (cs.drop o)) K
 | _=>False
theorem Fu (P:Program)(T:TypeId)(o:Nat)(cs:List AV)(K:AV→Prop):lK P T o (some (.cells cs)) K=oK (Vp P T (cs.drop o)) K:=propext Iff.rfl
theorem Dd (P:Program)(T:TypeId)(cs:List AV)(σ:Store)(K:AV→Prop):Wh P T (.ro cs) σ K=oK (Vp P T cs) K:=by unfold Wh oK;rfl
theorem HI (P:Program)(T:TypeId)(b o:Nat)(σ:Store)(K:AV→Prop):Wh P T (.val (.pointer (some ⟨b,o,none⟩))) σ K=lK P T o (σ.get b) K:=by
 simp only [Wh,lK];generalize σ.get b=q;cases q with
 | none=>rfl
 | some x=>cases x<;>first | rfl | (simp only [oK];rfl)
def stK (vs:Option (List AV))(n:Option Nat)(x:Option AObj)(b o:Nat)(σ:Store)(K:Store→Prop):Prop :=
 match vs,n,x with
 | some vs,some n,some (.cells cs)=>vs.length=n∧vs.all AV.one=true∧o+n≤cs.length∧K (σ.set b (.cells (Yr cs o vs)))
 | _,_,_=>False
theorem Gv (vs:List AV)(n:Nat)(cs:List AV)(b o:Nat)(σ:Store)(K:Store→Prop):stK (some vs) (some n) (some (.cells cs)) b o σ K=(vs.length=n∧vs.all AV.one=true∧o+n≤cs.length∧K (σ.set b (.cells (Yr cs o vs)))):=propext Iff.rfl
theorem KK (P:Program)(T:TypeId)(b o:Nat)(v:AV)(σ:Store)(K:Store→Prop):SO P T (.val (.pointer (some ⟨b,o,none⟩))) v σ K=stK v.cells (Zh P T) (σ.get b) b o σ K:=by
 unfold SO stK;generalize v.cells=p;generalize Zh P T=q
 cases p<;>cases q<;>try rfl
 simp only;generalize σ.get b=r
 cases r with
 | none=>rfl
 | some x=>cases x<;>rfl
def fKr (cs:List AV)(o:Option Nat)(K:AV→Prop):Prop:=match o with | some off=>K (.ro (cs.drop off)) | none=>False
theorem Ee (cs:List AV)(off:Nat)(K:AV→Prop):fKr cs (some off) K=K (.ro (cs.drop off)):=propext Iff.rfl
def fKp (b o:Nat)(x:Option Nat)(K:AV→Prop):Prop:=match x with | some off=>K (.val (.pointer (some ⟨b,o+off,none⟩))) | none=>False
theorem Ef (b o off:Nat)(K:AV→Prop):fKp b o (some off) K=K (.val (.pointer (some ⟨b,o+off,none⟩))):=propext Iff.rfl
theorem HO (P:Program)(s:TypeId)(cs:List AV)(f:Nat)(K:AV→Prop):WG P s (.ro cs) f K=fKr cs (ZE P s f) K:=by unfold WG fKr;cases ZE P s f<;>rfl
theorem KZ (P:Program)(s:TypeId)(b o:Nat)(f:Nat)(K:AV→Prop):WG P s (.val (.pointer (some ⟨b,o,none⟩))) f K=fKp b o (ZE P s f) K:=by unfold WG fKp;cases ZE P s f<;>rfl
def ixL (P:Program)(s:Nat)(es:List (List AV))(n:Int)(e:Option TypeId)(K:AV→Prop):Prop :=
 match e with
 | some e=>Zh P e=some s∧0≤n∧n<es.length∧∀ c,es[n.toNat]?=some c→K (.ro c)
 | none=>False
theorem FI (P:Program)(s:Nat)(es:List (List AV))(n:Int)(e:TypeId)(K:AV→Prop):ixL P s es n (some e) K=(Zh P e=some s∧0≤n∧n<es.length∧∀ c,es[n.toNat]?=some c→K (.ro c)):=propext Iff.rfl
theorem RC (P:Program)(t:TypeId)(r:Rt)(s:Nat)(es:List (List AV))(k:IntKind)(n:Int)(K:AV→Prop):Yd P t (.list r s es) (.val (.int k n)) K=ixL P s es n (ZB P t) K:=by
 unfold Yd ixL;cases ZB P t<;>rfl
def ixS (b o len:Nat)(n:Int)(s:Option Nat)(K:AV→Prop):Prop :=
 match s with
 | some s=>0≤n∧n<len∧K (.val (.pointer (some ⟨b,o+n.toNat * s,none⟩)))
 | none=>False
theorem FG (b o len:Nat)(n:Int)(s:Nat)(K:AV→Prop):ixS b o len n (some s) K=(0≤n∧n<len∧K (.val (.pointer (some ⟨b,o+n.toNat * s,none⟩)))):=propext Iff.rfl
theorem SS (P:Program)(t:TypeId)(b o len c:Nat)(k:IntKind)(n:Int)(K:AV→Prop):Yd P t (.val (.slice (some ⟨b,o,none⟩) len c)) (.val (.int k n)) K=ixS b o len n ((ZB P t).bind (Zh P)) K:=by
 unfold Yd ixS;cases ZB P t with
 | none=>rfl
 | some e=>simp only [Option.bind_some];cases Zh P e<;>rfl
def ixR (cs:List AV)(len:Nat)(n:Int)(s:Option Nat)(K:AV→Prop):Prop :=
 match s with
 | some s=>0≤n∧n<len∧K (.ro (cs.drop (n.toNat * s)))
 | none=>False
theorem FH (cs:List AV)(len:Nat)(n:Int)(s:Nat)(K:AV→Prop):ixR cs len n (some s) K=(0≤n∧n<len∧K (.ro (cs.drop (n.toNat * s)))):=propext Iff.rfl
theorem KX (P:Program)(t:TypeId)(s:ByteArray)(k:IntKind)(n:Int)(K:AV→Prop)(hu:P.underlying t=some .string):Vy P t (.val (.string s)) (.val (.int k n)) K=(0≤n∧n<s.size∧K (.val (.int .u8 (bAt s n.toNat)))):=by
 unfold Vy;rw [hu]
def fvK (P:Program)(cs:List AV)(x:Option (Nat×TypeId))(K:AV→Prop):Prop:=match x with | some (off,T)=>oK (Vp P T (cs.drop off)) K | none=>False
theorem F6 (P:Program)(cs:List AV)(off T:Nat)(K:AV→Prop):fvK P cs (some (off,T)) K=oK (Vp P T (cs.drop off)) K:=propext Iff.rfl
theorem Le (P:Program)(s:TypeId)(cs:List AV)(f:Nat)(K:AV→Prop):Wt P s (.agg cs) f K=fvK P cs (fTy P s f) K:=by
 unfold Wt fvK;cases fTy P s f with
 | none=>rfl
 | some x=>cases x;rfl
theorem ZL (P:Program)(op:BinOp)(T:TypeId)(x y v:AV)(yc:Operand)(K:AV→Prop)(h:Ys P op T x y (opC yc)=some v):Yq P op T x y yc K=K v:=by
 unfold Yq;rw [h]
theorem ah (P:Program)(T:TypeId)(k:IntKind)(a b:Int)(yc:Operand)(K:AV→Prop):Yq P .add T (.val (.int k a)) (.val (.int k b)) yc K=K (.val (.int k (k.wrap (a+b)))):=ZL _ _ _ _ _ _ _ _ (by simp [Ys])
theorem AM (P:Program)(T:TypeId)(k:IntKind)(a b:Int)(yc:Operand)(K:AV→Prop):Yq P .sub T (.val (.int k a)) (.val (.int k b)) yc K=K (.val (.int k (k.wrap (a-b)))):=ZL _ _ _ _ _ _ _ _ (by simp [Ys])
theorem AY (P:Program)(T:TypeId)(k:IntKind)(a b:Int)(yc:Operand)(K:AV→Prop):Yq P .mul T (.val (.int k a)) (.val (.int k b)) yc K=K (.val (.int k (k.wrap (a * b)))):=ZL _ _ _ _ _ _ _ _ (by simp [Ys])
theorem AZ (P:Program)(T:TypeId)(k:IntKind)(a b:Int)(yc:Operand)(K:AV→Prop):Yq P .lss T (.val (.int k a)) (.val (.int k b)) yc K=K (.val (.bool (decide (a<b)))):=ZL _ _ _ _ _ _ _ _ (by simp [Ys])
theorem A0 (P:Program)(T:TypeId)(k:IntKind)(a b:Int)(yc:Operand)(K:AV→Prop):Yq P .leq T (.val (.int k a)) (.val (.int k b)) yc K=K (.val (.bool (decide (a≤b)))):=ZL _ _ _ _ _ _ _ _ (by simp [Ys])
theorem A4 (P:Program)(T:TypeId)(k:IntKind)(a b:Int)(yc:Operand)(K:AV→Prop):Yq P .gtr T (.val (.int k a)) (.val (.int k b)) yc K=K (.val (.bool (decide (b<a)))):=ZL _ _ _ _ _ _ _ _ (by simp [Ys])
theorem A5 (P:Program)(T:TypeId)(k:IntKind)(a b:Int)(yc:Operand)(K:AV→Prop):Yq P .geq T (.val (.int k a)) (.val (.int k b)) yc K=K (.val (.bool (decide (b≤a)))):=ZL _ _ _ _ _ _ _ _ (by simp [Ys])
theorem A6 (P:Program)(T:TypeId)(k:IntKind)(a b:Int)(yc:Operand)(K:AV→Prop):Yq P .eql T (.val (.int k a)) (.val (.int k b)) yc K=K (.val (.bool (decide (a=b)))):=ZL _ _ _ _ _ _ _ _ (by simp [Ys])
theorem AX (P:Program)(T:TypeId)(k:IntKind)(a b:Int)(yc:Operand)(K:AV→Prop):Yq P .neq T (.val (.int k a)) (.val (.int k b)) yc K=K (.val (.bool (!decide (a=b)))):=ZL _ _ _ _ _ _ _ _ (by simp [Ys])
theorem AW (P:Program)(T:TypeId)(k:IntKind)(a b:Int)(yc:Operand)(K:AV→Prop)(h:b≠0):Yq P .quo T (.val (.int k a)) (.val (.int k b)) yc K=K (.val (.int k (k.wrap (a.tdiv b)))):=ZL _ _ _ _ _ _ _ _ (by simp [Ys,opC,h])
theorem AU (P:Program)(T:TypeId)(k:IntKind)(a b:Int)(yc:Operand)(K:AV→Prop)(h:b≠0):Yq P .rem T (.val (.int k a)) (.val (.int k b)) yc K=K (.val (.int k (a.tmod b))):=ZL _ _ _ _ _ _ _ _ (by simp [Ys,opC,h])
theorem AQ (P:Program)(T:TypeId)(k k':IntKind)(a b:Int)(yc:Operand)(K:AV→Prop)(h:0≤b):Yq P .shl T (.val (.int k a)) (.val (.int k' b)) yc K=K (.val (.int k (k.wrap (a * 2 ^ min b.toNat k.bits)))):=ZL _ _ _ _ _ _ _ _ (by simp [Ys,opC,h])
theorem AP (P:Program)(T:TypeId)(k k':IntKind)(a b:Int)(yc:Operand)(K:AV→Prop)(h:0≤b):Yq P .shr T (.val (.int k a)) (.val (.int k' b)) yc K=K (.val (.int k (a.fdiv (2 ^ min b.toNat k.bits)))):=ZL _ _ _ _ _ _ _ _ (by simp [Ys,opC,h])
theorem AL (P:Program)(T:TypeId)(k:IntKind)(a b:Int)(yc:Operand)(K:AV→Prop):Yq P .xor T (.val (.int k a)) (.val (.int k b)) yc K=K (.val (.int k (k.wrap (BitVec.ofInt k.bits a ^^^ BitVec.ofInt k.bits b).toNat))):=ZL _ _ _ _ _ _ _ _ (by simp [Ys])
theorem aa (P:Program)(T:TypeId)(k:IntKind)(a b:Int)(yc:Operand)(K:AV→Prop):Yq P .and T (.val (.int k a)) (.val (.int k b)) yc K=K (.val (.int k (k.wrap (BitVec.ofInt k.bits a &&& BitVec.ofInt k.bits b).toNat))):=ZL _ _ _ _ _ _ _ _ (by simp [Ys])
theorem AS (P:Program)(T:TypeId)(a b:ByteArray)(yc:Operand)(K:AV→Prop):Yq P .eql T (.val (.string a)) (.val (.string b)) yc K=K (.val (.bool (decide (a=b)))):=ZL _ _ _ _ _ _ _ _ (by simp [Ys])
theorem AN (P:Program)(T:TypeId)(a b:ByteArray)(yc:Operand)(K:AV→Prop):Yq P .neq T (.val (.string a)) (.val (.string b)) yc K=K (.val (.bool (!decide (a=b)))):=ZL _ _ _ _ _ _ _ _ (by simp [Ys])
theorem AO (P:Program)(T:TypeId)(a b:ByteArray)(yc:Operand)(K:AV→Prop):Yq P .lss T (.val (.string a)) (.val (.string b)) yc K=K (.val (.bool (decide (Op.bytesLess a.data.toList b.data.toList=true)))):=ZL _ _ _ _ _ _ _ _ (by simp [Ys])
theorem AR (P:Program)(T:TypeId)(a b:ByteArray)(yc:Operand)(K:AV→Prop):Yq P .gtr T (.val (.string a)) (.val (.string b)) yc K=K (.val (.bool (!decide (Op.bytesLess a.data.toList b.data.toList=true∨a=b)))):=ZL _ _ _ _ _ _ _ _ (by simp [Ys])
theorem A8 (P:Program)(T:TypeId)(a b:Bool)(yc:Operand)(K:AV→Prop)(h:P.underlying T=some .bool):Yq P .eql T (.val (.bool a)) (.val (.bool b)) yc K=K (.val (.bool (decide (a=b)))):=ZL _ _ _ _ _ _ _ _ (by simp [Ys,opC,h])
theorem A7 (P:Program)(T:TypeId)(a b:Bool)(yc:Operand)(K:AV→Prop)(h:P.underlying T=some .bool):Yq P .neq T (.val (.bool a)) (.val (.bool b)) yc K=K (.val (.bool (!decide (a=b)))):=ZL _ _ _ _ _ _ _ _ (by simp [Ys,opC,h])
theorem Dn (P:Program)(T:TypeId)(c:Value)(K:AV→Prop)(h:ZK (P.underlying T)=true):Yq P .neq T (.val .nilIface) (.val .nilIface) (.const c) K=K (.val (.bool false)):=ZL _ _ _ _ _ _ _ _ (by simp [Ys,opC,h])
theorem Do (P:Program)(T:TypeId)(c:Value)(K:AV→Prop)(h:ZK (P.underlying T)=true):Yq P .eql T (.val .nilIface) (.val .nilIface) (.const c) K=K (.val (.bool true)):=ZL _ _ _ _ _ _ _ _ (by simp [Ys,opC,h])
theorem C3 (P:Program)(T t:TypeId)(v:Value)(yc:Operand)(K:AV→Prop)(h:ZK (P.underlying T)=true):Yq P .neq T (.val (.iface t v)) (.val .nilIface) yc K=K (.val (.bool true)):=ZL _ _ _ _ _ _ _ _ (by simp [Ys,opC,h])
theorem C4 (P:Program)(T t:TypeId)(v:Value)(yc:Operand)(K:AV→Prop)(h:ZK (P.underlying T)=true):Yq P .eql T (.val (.iface t v)) (.val .nilIface) yc K=K (.val (.bool false)):=ZL _ _ _ _ _ _ _ _ (by simp [Ys,opC,h])
def eqK (o:Option Bool)(F:Prop)(K:AV→Prop):Prop:=match o with | some b=>K (.val (.bool b)) | none=>F
theorem Ei (b:Bool)(F:Prop)(K:AV→Prop):eqK (some b) F K=K (.val (.bool b)):=propext Iff.rfl
def bB:Option Bool→Option Bool→Option Bool
 | some x,some y=>some (x&&y)
 | _,_=>none
theorem HD (x y:Bool):bB (some x) (some y)=some (x&&y):=rfl
theorem KY (l:List Nat)(xs ys:List AV):Se (some l) xs ys=Vd l xs ys:=rfl
theorem Dh:Vd [] [] []=some true:=rfl
theorem HN (k:Nat)(l:List Nat)(a b:AV)(r s:List AV):Vd (k::l) (a::r) (b::s)=bB (Vw k a b) (Vd l r s):=by
 simp only [Vd]
 cases Vw k a b<;>cases Vd l r s<;>rfl
theorem KH (k:IntKind)(x y:Int):Vw 0 (.val (.int k x)) (.val (.int k y))=some (decide (x=y)):=by simp [Vw]
theorem M0 (x y:Bool):Vw 1 (.val (.bool x)) (.val (.bool y))=some (decide (x=y)):=rfl
theorem PD (x y:ByteArray):Vw 2 (.val (.string x)) (.val (.string y))=some (decide (x=y)):=rfl
def nB:Option Bool→Option Bool
 | some b=>some (!b)
 | none=>none
theorem D1 (b:Bool):nB (some b)=some (!b):=rfl
def abF (P:Program)(op:BinOp)(T:TypeId)(xs ys:List AV)(yc:Operand)(K:AV→Prop):Prop:=Yq P op T (.agg xs) (.agg ys) yc K
theorem ac (P:Program)(T:TypeId)(xs ys:List AV)(yc:Operand)(K:AV→Prop):Yq P .eql T (.agg xs) (.agg ys) yc K=eqK (Se (eqT P T) xs ys) (abF P .eql T xs ys yc K) K:=by
 cases h:Se (eqT P T) xs ys with
 | none=>rfl
 | some b=>unfold Yq;simp only [Ys,h];rfl
theorem A9 (P:Program)(T:TypeId)(xs ys:List AV)(yc:Operand)(K:AV→Prop):Yq P .neq T (.agg xs) (.agg ys) yc K=eqK (nB (Se (eqT P T) xs ys)) (abF P .neq T xs ys yc K) K:=by
 cases h:Se (eqT P T) xs ys with
 | none=>rfl
 | some b=>unfold Yq;simp only [Ys,h];rfl
attribute [go_sem] Ei HD KY Dh HN KH M0 PD D1 ac A9
theorem CC (b:Bool)(K:AV→Prop):aun .not (.val (.bool b)) K=K (.val (.bool (!b))):=propext Iff.rfl
theorem CD (k:IntKind)(n:Int)(K:AV→Prop):aun .neg (.val (.int k n)) K=K (.val (.int k (k.wrap (0-n)))):=propext Iff.rfl
def ifK (T:TypeId)(o:Option Value)(K:AV→Prop):Prop:=match o with | some v=>K (.val (.iface T v)) | none=>False
theorem FL (T:TypeId)(v:Value)(K:AV→Prop):ifK T (some v) K=K (.val (.iface T v)):=propext Iff.rfl
theorem HL (P:Program)(T:TypeId)(x:AV)(K:AV→Prop):Uf P T x K=((P.underlying T).isSome=true∧ZK (P.underlying T)=false∧ifK T x.toVal K):=by
 unfold Uf ifK;cases x.toVal<;>rfl
theorem Lm (P:Program)(T:TypeId)(v:Value)(K:AV→Prop):Sh P (.val (.iface T v)) T true K=((P.underlying T).isSome=true∧ZK (P.underlying T)=false∧K (.tup [cS v,.val (.bool true)])):=by
 unfold Sh;simp
theorem NJ (vs:List AV)(i:Nat)(K:AV→Prop):XU (.tup vs) i K=oK (vs[i]?) K:=by unfold XU oK;rfl
def bdK (P:Program)(t:TypeId)(z:Option Value)(pl:Option (List (Nat×Nat)))(ps:List (Nat×AV))(K:AV→Prop):Prop :=
 match z,pl with
 | some z,some pl=>oK ((Un (fun i=>pl[i]?) (YM z) ps).map .agg) K
 | _,_=>False
theorem EH (P:Program)(t:TypeId)(z:Value)(pl:List (Nat×Nat))(ps:List (Nat×AV))(K:AV→Prop):bdK P t (some z) (some pl) ps K=oK ((Un (fun i=>pl[i]?) (YM z) ps).map .agg) K:=propext Iff.rfl
theorem HS (P:Program)(t:TypeId)(ps:List (Nat×AV))(K:AV→Prop):Vz P t ps K=bdK P t (Zl P t) (YD P t) ps K:=by
 unfold Vz bdK oK
 cases Zl P t with
 | none=>rfl
 | some z=>cases YD P t with
   | none=>rfl
   | some pl=>simp only;cases Un (fun i=>pl[i]?) (YM z) ps<;>rfl
def bsK (es:Option (List (List AV)))(s:Nat)(K:AV→Prop):Prop :=
 match es with
 | some es=>es.all (fun e=>e.all AV.one)=true∧K (.list .full s es)
 | none=>False
theorem EF (es:List (List AV))(s:Nat)(K:AV→Prop):bsK (some es) s K=(es.all (fun e=>e.all AV.one)=true∧K (.list .full s es)):=propext Iff.rfl
def cuL (P:Program)(r:Rt)(s:Nat)(es:List (List AV))(e:Nat)(hi:Option AV)(l h:Option Int)(K:AV→Prop):Prop :=
 match l,h with
 | some l,some h=>Zh P e=some s∧0≤l∧l≤h∧h≤es.length∧K (.list (Vn hi r) s ((es.drop l.toNat).take (h.toNat-l.toNat)))
 | _,_=>False
theorem Eo (P:Program)(r:Rt)(s:Nat)(es:List (List AV))(e:Nat)(hi:Option AV)(l h:Int)(K:AV→Prop):cuL P r s es e hi (some l) (some h) K=(Zh P e=some s∧0≤l∧l≤h∧h≤es.length∧K (.list (Vn hi r) s ((es.drop l.toNat).take (h.toNat-l.toNat)))):=propext Iff.rfl
theorem Kq (d:Int):Wg none d=some d:=rfl
theorem Kp (k:IntKind)(n d:Int):Wg (some (.val (.int k n))) d=some n:=rfl
theorem CQ (k k':IntKind)(x y:Int)(K:AV→Prop):amm true [.val (.int k x),.val (.int k' y)] K=K (.val (.int k (max x y))):=propext Iff.rfl
theorem CP (k k':IntKind)(x y:Int)(K:AV→Prop):amm false [.val (.int k x),.val (.int k' y)] K=K (.val (.int k (min x y))):=propext Iff.rfl
theorem Db (a:Addr)(K:AV→Prop):Q8 (.val (.pointer (some a))) K=K (.val (.pointer (some a))):=propext Iff.rfl
theorem HC (f:Nat)(a b:Array Value)(K:AV→Prop):Q8 (.val (.func (.func f) a b)) K=K (.val (.func (.func f) a b)):=propext Iff.rfl
theorem CO (cs:List AV)(K:AV→Prop):Q8 (.ro cs) K=K (.ro cs):=propext Iff.rfl
theorem K5 (P:Program)(sT xT:Nat)(s x:AV)(σ:Store)(K:ZQ→Store→Prop):Xi P .append ⟨[sT,xT]⟩ [s,x] σ K=U7 P sT xT s x σ (kRs K):=propext Iff.rfl
theorem C0 (P:Program)(t:Nat)(x:AV)(σ:Store)(K:ZQ→Store→Prop):Xi P .len ⟨[t]⟩ [x] σ K=Ur P t x σ (Y4 K σ):=propext Iff.rfl
theorem CZ (P:Program)(ts:Array TypeId)(xs:List AV)(σ:Store)(K:ZQ→Store→Prop):Xi P .max ts xs σ K=amm true xs (Y4 K σ):=by
 unfold Xi;split<;>simp_all
theorem CY (P:Program)(ts:Array TypeId)(xs:List AV)(σ:Store)(K:ZQ→Store→Prop):Xi P .min ts xs σ K=amm false xs (Y4 K σ):=by
 unfold Xi;split<;>simp_all
section
variable (P:Program) (mu:Bool) (ev:Operand→AV) (σ:Store) (K:ZQ→Store→Prop)
def pkK (c a b:AV)(K:AV→Prop):Prop:=match c with | .val (.bool x)=>K (if x then a else b) | _=>False
theorem GY (a b:AV)(K:AV→Prop):pkK (.val (.bool true)) a b K=K a:=propext Iff.rfl
theorem It (a b:AV)(K:AV→Prop):pkK (.val (.bool false)) a b K=K b:=propext Iff.rfl
theorem DQ (p:Prop)[Decidable p](a b:AV)(K:AV→Prop):pkK (.val (.bool (decide p))) a b K=((p→K a)∧(¬ p→K b)):=by
 unfold pkK;by_cases h:p<;>simp [h]
def alK (z:Option Value)(σ:Store)(K:ZQ→Store→Prop):Prop:=match z with | some z=>Pi true (YM z) σ K | none=>False
theorem Df (z:Value):alK (some z) σ K=Pi true (YM z) σ K:=propext Iff.rfl
def bxK (cs:Option (List AV))(mu:Bool)(σ:Store)(K:ZQ→Store→Prop):Prop:=match cs with | some cs=>Pi mu cs σ K | none=>False
theorem EC (cs:List AV):bxK (some cs) mu σ K=Pi mu cs σ K:=propext Iff.rfl
def mfK (fn:Fn)(f c:Option (List Value))(K:AV→Prop):Prop:=match f,c with | some f,some c=>K (.val (.func fn f.toArray c.toArray)) | _,_=>False
theorem Fh (fn:Fn)(f c:List Value)(K:AV→Prop):mfK fn (some f) (some c) K=K (.val (.func fn ⟨f⟩ ⟨c⟩)):=propext Iff.rfl
def pnK (x:AV)(σ:Store)(K:ZQ→Store→Prop):Prop:=match x with | .val (.iface t v)=>K (.pan (.iface t v)) σ | _=>False
theorem Is (t:TypeId)(v:Value):pnK (.val (.iface t v)) σ K=K (.pan (.iface t v)) σ:=propext Iff.rfl
theorem CI (x:Operand):ZA P mu ev σ K (.move x)=K (.ret (ev x)) σ:=propext Iff.rfl
theorem HA (x:Operand):ZA P mu ev σ K (.assign x)=K (.ret (ev x)) σ:=propext Iff.rfl
theorem CG (c a b:Operand):ZA P mu ev σ K (.pick c a b)=pkK (ev c) (ev a) (ev b) (Y4 K σ):=propext Iff.rfl
theorem EZ (T:TypeId):ZA P mu ev σ K (.alloc T)=alK (Zl P T) σ K:=propext Iff.rfl
theorem AG (T:TypeId)(x:Operand):ZA P mu ev σ K (.box T x)=bxK (ev x).cells mu σ K:=propext Iff.rfl
theorem EX (t:TypeId)(ps:List (Nat×Operand)):ZA P mu ev σ K (.build t ⟨ps⟩)=Vz P t (ps.map fun p=>(p.1,ev p.2)) (Y4 K σ):=propext Iff.rfl
theorem PF (t:TypeId)(n:Nat)(ps:List (Nat×Operand)):ZA P mu ev σ K (.buildSlice t n ⟨ps⟩)=YT P t n (ps.map fun p=>(p.1,ev p.2)) (Y4 K σ):=propext Iff.rfl
theorem CJ (T:TypeId)(x:Operand):ZA P mu ev σ K (.load T x)=Wh P T (ev x) σ (Y4 K σ):=propext Iff.rfl
theorem EQ (T:TypeId)(x y:Operand):ZA P mu ev σ K (.store T x y)=SO P T (ev x) (ev y) σ (Kh K):=propext Iff.rfl
theorem M3 (x:Operand):ZA P mu ev σ K (.nilCheck x)=Q8 (ev x) (Y4 K σ):=propext Iff.rfl
theorem EY (op:BinOp)(T T':TypeId)(x y:Operand):ZA P mu ev σ K (.binOp op T x y T')=Yq P op T (ev x) (ev y) y (Y4 K σ):=propext Iff.rfl
theorem CF (op:UnOp)(T:TypeId)(x:Operand):ZA P mu ev σ K (.unOp op T x)=aun op (ev x) (Y4 K σ):=propext Iff.rfl
theorem KN (s d:TypeId)(x:Operand):ZA P mu ev σ K (.convert s d x)=Tk P s d (ev x) (Y4 K σ):=propext Iff.rfl
theorem SP (T:TypeId)(x:Operand):ZA P mu ev σ K (.makeInterface T x)=Uf P T (ev x) (Y4 K σ):=propext Iff.rfl
theorem M4 (fn:Fn)(f c:List Operand):ZA P mu ev σ K (.makeFunc fn ⟨f⟩ ⟨c⟩)=mfK fn (cR (f.map ev)) (cR (c.map ev)) (Y4 K σ):=propext Iff.rfl
theorem NA (t:TypeId)(n c:Operand):ZA P mu ev σ K (.makeSlice t n c)=Ue P t (ev n) (ev c) σ K:=propext Iff.rfl
theorem ER (t:TypeId)(x:Operand)(lo hi mx:Option Operand):ZA P mu ev σ K (.slice t x lo hi mx)=RD P t (ev x) (lo.map ev) (hi.map ev) (mx.map ev) (Y4 K σ):=propext Iff.rfl
theorem NC (s:TypeId)(x:Operand)(f:Nat):ZA P mu ev σ K (.fieldAddr s x f)=WG P s (ev x) f (Y4 K σ):=propext Iff.rfl
theorem EV (s:TypeId)(x:Operand)(f:Nat):ZA P mu ev σ K (.field s x f)=Wt P s (ev x) f (Y4 K σ):=propext Iff.rfl
theorem NB (t:TypeId)(x i:Operand):ZA P mu ev σ K (.indexAddr t x i)=Yd P t (ev x) (ev i) (Y4 K σ):=propext Iff.rfl
theorem EU (t:TypeId)(x i:Operand):ZA P mu ev σ K (.index t x i)=Vy P t (ev x) (ev i) (Y4 K σ):=propext Iff.rfl
theorem KM (x:Operand)(i:Nat):ZA P mu ev σ K (.extract x i)=XU (ev x) i (Y4 K σ):=propext Iff.rfl
theorem PE (x:Operand)(t T:TypeId)(ok:Bool):ZA P mu ev σ K (.typeAssert x t T ok)=Sh P (ev x) T ok (Y4 K σ):=propext Iff.rfl
theorem ET (x:Operand):ZA P mu ev σ K (.panic x)=pnK (ev x) σ K:=propext Iff.rfl
theorem CK (f:Operand)(args:List Operand)(ts:Array TypeId):ZA P mu ev σ K (.call ⟨.value f,⟨args⟩,ts⟩)=Z0 P (ev f) (args.map ev) σ K:=propext Iff.rfl
theorem KO (b:Builtin)(args:List Operand)(ts:Array TypeId):ZA P false ev σ K (.call ⟨.builtin b,⟨args⟩,ts⟩)=Xi P b ts (args.map ev) σ K:=propext Iff.rfl
theorem CL (s x:Operand)(sT xT:TypeId):ZA P true ev σ K (.call ⟨.builtin .append,⟨[s,x]⟩,⟨[sT,xT]⟩⟩)=Uo P sT xT (ev s) (ev x) σ (kRs K):=propext Iff.rfl
theorem KL (t:TypeId):ZA P mu ev σ K (.makeMap t none)=Sc σ K:=propext Iff.rfl
theorem Nz (t:TypeId)(m k v:Operand):ZA P mu ev σ K (.mapUpdate t m k v)=Vq P t (ev m) (ev k) (ev v) σ (Kh K):=propext Iff.rfl
theorem Hz (t:TypeId)(m k v:Operand):ZA P mu ev σ K (.insert t m k v)=Vq P t (ev m) (ev k) (ev v) σ (Kh K):=propext Iff.rfl
theorem Hy (t:TypeId)(m k:Operand)(ok:Bool):ZA P mu ev σ K (.lookup t m k ok)=Lb P t (ev m) (ev k) ok σ (Y4 K σ):=propext Iff.rfl
theorem ES (t:TypeId)(m:Operand):ZA P mu ev σ K (.range t m)=KP P t (ev m) σ K:=propext Iff.rfl
theorem CH (it:Operand):ZA P mu ev σ K (.next it false)=Dc (ev it) σ K:=propext Iff.rfl
theorem EW (it:Operand):ZA P mu ev σ K (.entry it)=K0 (ev it) σ (Y4 K σ):=propext Iff.rfl
theorem NF (σ:Store)(K:ZQ→Store→Prop):Sc σ K=∀ b,Zx σ b→K (.ret (.val (.map (some b)))) ((b,.map [] 0)::σ):=propext Iff.rfl
end
theorem Y8 (P:Program)(g:FuncId)(l:List Value)(args:List AV)(σ:Store)(K:ZQ→Store→Prop):Z0 P (.val (.func (.func g) ⟨[]⟩ ⟨l⟩)) args σ K=Zi P g (args++l.map .val) σ K:=by
 apply propext
 constructor
 ·rintro ⟨g',f,c,e,h⟩
  injection e with e
  injection e with e1 e2 e3
  injection e1 with e1
  subst e1;subst e2;subst e3
  simpa using h
 ·intro h;exact ⟨g,⟨[]⟩,⟨l⟩,rfl,by simpa using h⟩
def ixA (P:Program)(x:AV)(n:Int)(d:Option TypeDesc)(K:AV→Prop):Prop :=
 match d,x with
 | some (.array len e),.val (.pointer (some ⟨b,o,none⟩))=>ixS b o len n (Zh P e) K
 | some (.array len e),.ro cs=>ixR cs len n (Zh P e) K
 | _,_=>False
theorem Ch (P:Program)(b o:Nat)(n:Int)(len e:Nat)(K:AV→Prop):ixA P (.val (.pointer (some ⟨b,o,none⟩))) n (some (.array len e)) K=ixS b o len n (Zh P e) K:=propext Iff.rfl
theorem Ao (P:Program)(cs:List AV)(n:Int)(len e:Nat)(K:AV→Prop):ixA P (.ro cs) n (some (.array len e)) K=ixR cs len n (Zh P e) K:=propext Iff.rfl
theorem PH (P:Program)(t:TypeId)(b o:Nat)(k:IntKind)(n:Int)(K:AV→Prop)(h:ZB P t=none):Yd P t (.val (.pointer (some ⟨b,o,none⟩))) (.val (.int k n)) K=ixA P (.val (.pointer (some ⟨b,o,none⟩))) n (P.underlying t) K:=by
 unfold Yd ixA ixS;rw [h];simp only;generalize P.underlying t=d
 cases d with
 | none=>rfl
 | some d=>cases d<;>rfl
theorem PG (P:Program)(t:TypeId)(cs:List AV)(k:IntKind)(n:Int)(K:AV→Prop)(h:ZB P t=none):Yd P t (.ro cs) (.val (.int k n)) K=ixA P (.ro cs) n (P.underlying t) K:=by
 unfold Yd ixA ixR;rw [h];simp only;generalize P.underlying t=d
 cases d with
 | none=>rfl
 | some d=>cases d<;>rfl
def nlK (e:Option TypeId)(w:Bool)(es:List (List AV))(K:AV→Prop):Prop :=
 match e with
 | some _=>∀ b:Bool,(b=w→es=[])→K (.val (.bool b))
 | none=>False
theorem Fe (e:TypeId)(w:Bool)(es:List (List AV))(K:AV→Prop):nlK (some e) w es K=∀ b:Bool,(b=w→es=[])→K (.val (.bool b)):=propext Iff.rfl
theorem K8 (P:Program)(T:TypeId)(r:Rt)(s:Nat)(es:List (List AV))(y:AV)(n c:Nat)(K:AV→Prop):Yq P .eql T (.list r s es) y (.const (.slice none n c)) K=nlK (ZB P T) true es K:=by
 unfold Yq nlK;cases y<;>simp only [Ys]<;>cases ZB P T<;>rfl
theorem K7 (P:Program)(T:TypeId)(r:Rt)(s:Nat)(es:List (List AV))(y:AV)(n c:Nat)(K:AV→Prop):Yq P .neq T (.list r s es) y (.const (.slice none n c)) K=nlK (ZB P T) false es K:=by
 unfold Yq nlK;cases y<;>simp only [Ys]<;>cases ZB P T<;>rfl
def acK (s d:Option TypeDesc)(n:Int)(K:AV→Prop):Prop :=
 match s,d with
 | some _,some (.int k)=>K (.val (.int k (k.wrap n)))
 | _,_=>False
theorem CX (q:TypeDesc)(k:IntKind)(n:Int)(K:AV→Prop):acK (some q) (some (.int k)) n K=K (.val (.int k (k.wrap n))):=propext Iff.rfl
theorem HQ (P:Program)(s d:TypeId)(j:IntKind)(n:Int)(K:AV→Prop):Tk P s d (.val (.int j n)) K=acK (P.underlying s) (P.underlying d) n K:=by
 unfold Tk acK;generalize P.underlying s=a;generalize P.underlying d=b
 cases a<;>cases b<;>try rfl
 rename_i d;cases d<;>rfl
def bsZ (s:Option Nat)(z:Option Value)(len:Nat)(ps:List (Nat×AV))(K:AV→Prop):Prop :=
 match s,z with
 | some s,some z=>0<s∧ps.map (·.1)=List.range len∧len * s≤16777216∧z.cells.size=s∧bsK (XG s (ps.map (·.2))) s K
 | _,_=>False
theorem EE (s:Nat)(z:Value)(len:Nat)(ps:List (Nat×AV))(K:AV→Prop):bsZ (some s) (some z) len ps K=(0<s∧ps.map (·.1)=List.range len∧len * s≤16777216∧z.cells.size=s∧bsK (XG s (ps.map (·.2))) s K):=propext Iff.rfl
def bsE (P:Program)(e:Option TypeId)(len:Nat)(ps:List (Nat×AV))(K:AV→Prop):Prop :=
 match e with
 | some e=>bsZ (Zh P e) (Zl P e) len ps K
 | none=>False
theorem EG (P:Program)(e:TypeId)(len:Nat)(ps:List (Nat×AV))(K:AV→Prop):bsE P (some e) len ps K=bsZ (Zh P e) (Zl P e) len ps K:=propext Iff.rfl
theorem Pg (P:Program)(t len:Nat)(ps:List (Nat×AV))(K:AV→Prop):YT P t len ps K=bsE P (ZB P t) len ps K:=by
 unfold YT bsE bsZ bsK;cases ZB P t with
 | none=>rfl
 | some e =>
   simp only;generalize Zh P e=a;generalize Zl P e=b
   cases a<;>cases b<;>try rfl
def apZ (sz:Option Nat)(z:Option Value)(by_:Option Nat)(s x:AV)(σ:Store)(K:AV→Store→Prop):Prop :=
 match sz,z,by_,s,x with
 | some sz,some z,some by_,.list r s1 es,.list _ s2 ys=>z.cells.size=sz∧by_≤512∧es.length+ys.length≤lim∧(s1=sz∨es=[])∧(s2=sz∨ys=[]) ∧
  match r with
  | .full=>(ys=[]→K (.list .full s1 es) σ)∧(ys≠[]→∀ b e c,Zx σ b→K (.list (.tip b e c) sz (es++ys)) ((b,.tail e c)::σ))
  | .tip b0 e0 c0=>σ.get b0=some (.tail e0 c0)∧s1=sz∧∀ b e c,Zx (σ.del b0) b→K (.list (.tip b e c) sz (es++ys)) ((b,.tail e c)::σ.del b0)
  | .none=>ys=[]∧K (.list .none s1 es) σ
 | _,_,_,_,_=>False
def apE (P:Program)(e q:Option TypeId)(s x:AV)(σ:Store)(K:AV→Store→Prop):Prop :=
 match e,q with
 | some e,some _=>apZ (Zh P e) (Zl P e) (ZU P e) s x σ K
 | _,_=>False
theorem E5 (P:Program)(e q:TypeId)(s x:AV)(σ:Store)(K:AV→Store→Prop):apE P (some e) (some q) s x σ K=apZ (Zh P e) (Zl P e) (ZU P e) s x σ K:=propext Iff.rfl
theorem E4 (sz:Nat)(z:Value)(by_ s1 s2:Nat)(es ys:List (List AV))(r2:Rt)(σ:Store)(K:AV→Store→Prop):apZ (some sz) (some z) (some by_) (.list .full s1 es) (.list r2 s2 ys) σ K =
 (z.cells.size=sz∧by_≤512∧es.length+ys.length≤lim∧(s1=sz∨es=[])∧(s2=sz∨ys=[])∧(ys=[]→K (.list .full s1 es) σ)∧(ys≠[]→∀ b e c,Zx σ b→K (.list (.tip b e c) sz (es++ys)) ((b,.tail e c)::σ))):=propext Iff.rfl
theorem CN (sz:Nat)(z:Value)(by_ s1 s2 b0 e0 c0:Nat)(es ys:List (List AV))(r2:Rt)(σ:Store)(K:AV→Store→Prop):apZ (some sz) (some z) (some by_) (.list (.tip b0 e0 c0) s1 es) (.list r2 s2 ys) σ K =
 (z.cells.size=sz∧by_≤512∧es.length+ys.length≤lim∧(s1=sz∨es=[])∧(s2=sz∨ys=[])∧σ.get b0=some (.tail e0 c0)∧s1=sz∧∀ b e c,Zx (σ.del b0) b→K (.list (.tip b e c) sz (es++ys)) ((b,.tail e c)::σ.del b0)):=propext Iff.rfl
theorem K9 (P:Program)(sT xT:TypeId)(s x:AV)(σ:Store)(K:AV→Store→Prop):U7 P sT xT s x σ K=apE P (ZB P sT) (ZB P xT) s x σ K:=by
 unfold U7 apE
 generalize ZB P sT=a;generalize ZB P xT=q
 cases a with
 | none=>cases q<;>cases s<;>cases x<;>rfl
 | some e =>
   cases q with
   | none =>
     cases s<;>cases x<;>try rfl
     simp only;generalize Zh P e=i;generalize Zl P e=j;generalize ZU P e=k
     cases i<;>cases j<;>cases k<;>try rfl
     simp
   | some q =>
     cases s<;>cases x<;>simp only<;>generalize Zh P e=i<;>generalize Zl P e=j<;>generalize ZU P e=k<;>cases i<;>cases j<;>cases k<;>try rfl
     rename_i r s1 es r2 s2 ys sz z by_
     simp only [Option.isSome_some,true_and,apZ]
     cases r<;>rfl
def lnL (d:Option TypeDesc)(m:Nat)(K:AV→Prop):Prop :=
 match d with
 | some (.slice _)=>K (.val (.int .i64 m))
 | some (.array n _)=>K (.val (.int .i64 n))
 | _=>False
theorem IG (e m:Nat)(K:AV→Prop):lnL (some (.slice e)) m K=K (.val (.int .i64 m)):=propext Iff.rfl
theorem HK (P:Program)(t:Nat)(r:Rt)(s:Nat)(es:List (List AV))(σ:Store)(K:AV→Prop):Ur P t (.list r s es) σ K=lnL (P.underlying t) es.length K:=by
 unfold Ur lnL;generalize P.underlying t=d;cases d with
 | none=>rfl
 | some d=>cases d<;>rfl
theorem KW (P:Program)(t:Nat)(a:Option Addr)(n c:Nat)(σ:Store)(K:AV→Prop):Ur P t (.val (.slice a n c)) σ K=lnL (P.underlying t) n K:=by
 unfold Ur lnL;generalize P.underlying t=d;cases d with
 | none=>rfl
 | some d=>cases d<;>rfl
theorem De (P:Program)(t:Nat)(s:ByteArray)(σ:Store)(K:AV→Prop)(h:P.underlying t=some .string):Ur P t (.val (.string s)) σ K=K (.val (.int .i64 s.size)):=by
 unfold Ur;simp only [h]
def cuS (s:ByteArray)(l h:Option Int)(K:AV→Prop):Prop :=
 match l,h with
 | some l,some h=>0≤l∧l≤h∧h≤s.size∧K (.val (.string (s.extract l.toNat h.toNat)))
 | _,_=>False
theorem En (s:ByteArray)(l h:Int)(K:AV→Prop):cuS s (some l) (some h) K=(0≤l∧l≤h∧h≤s.size∧K (.val (.string (s.extract l.toNat h.toNat)))):=propext Iff.rfl
theorem Dm (P:Program)(t:Nat)(s:ByteArray)(lo hi:Option AV)(K:AV→Prop)(hu:P.underlying t=some .string):RD P t (.val (.string s)) lo hi none K=cuS s (Wg lo 0) (Wg hi s.size) K:=by
 unfold RD cuS;simp only [hu];cases Wg lo 0<;>cases Wg hi s.size<;>rfl
def cuD (P:Program)(d:Option TypeDesc)(r:Rt)(s:Nat)(es:List (List AV))(hi:Option AV)(l h:Option Int)(K:AV→Prop):Prop :=
 match d with
 | some (.slice e)=>cuL P r s es e hi l h K
 | _=>False
theorem Hm (P:Program)(e:Nat)(r:Rt)(s:Nat)(es:List (List AV))(hi:Option AV)(l h:Option Int)(K:AV→Prop):cuD P (some (.slice e)) r s es hi l h K=cuL P r s es e hi l h K:=propext Iff.rfl
theorem HP (P:Program)(t:Nat)(r:Rt)(s:Nat)(es:List (List AV))(lo hi:Option AV)(K:AV→Prop):RD P t (.list r s es) lo hi none K=cuD P (P.underlying t) r s es hi (Wg lo 0) (Wg hi es.length) K:=by
 unfold RD cuD cuL;generalize P.underlying t=d;cases d with
 | none=>rfl
 | some d =>
   cases d<;>try rfl
   simp only;cases Wg lo 0<;>cases Wg hi es.length<;>rfl
section
variable {P:Program} {ev:Operand→AV} {σ:Store} {K:AV→Prop}
theorem DN (x:Operand):ZN P ev σ K (.move x)=K (ev x):=propext Iff.rfl
theorem Ir (x:Operand):ZN P ev σ K (.assign x)=K (ev x):=propext Iff.rfl
theorem DM (c a b:Operand):ZN P ev σ K (.pick c a b)=pkK (ev c) (ev a) (ev b) K:=by
 unfold pkK;simp only [ZN];cases ev c<;>try rfl
def bxP (cs:Option (List AV))(K:AV→Prop):Prop:=match cs with | some cs=>cs.all AV.one=true∧K (.ro cs) | none=>False
theorem EB (cs:List AV):bxP (some cs) K=(cs.all AV.one=true∧K (.ro cs)):=propext Iff.rfl
theorem BQ (T:TypeId)(x:Operand):ZN P ev σ K (.box T x)=bxP (ev x).cells K:=propext Iff.rfl
theorem GW (t:TypeId)(ps:List (Nat×Operand)):ZN P ev σ K (.build t ⟨ps⟩)=Vz P t (ps.map fun p=>(p.1,ev p.2)) K:=propext Iff.rfl
theorem Po (t:TypeId)(n:Nat)(ps:List (Nat×Operand)):ZN P ev σ K (.buildSlice t n ⟨ps⟩)=YT P t n (ps.map fun p=>(p.1,ev p.2)) K:=propext Iff.rfl
theorem DO (T:TypeId)(x:Operand):ZN P ev σ K (.load T x)=Wh P T (ev x) σ K:=propext Iff.rfl
theorem Mc (x:Operand):ZN P ev σ K (.nilCheck x)=Q8 (ev x) K:=propext Iff.rfl
theorem GX (op:BinOp)(T T':TypeId)(x y:Operand):ZN P ev σ K (.binOp op T x y T')=XX P op T (ev x) (ev y) y K:=propext Iff.rfl
theorem DL (op:UnOp)(T:TypeId)(x:Operand):ZN P ev σ K (.unOp op T x)=aun op (ev x) K:=propext Iff.rfl
theorem L2 (s d:TypeId)(x:Operand):ZN P ev σ K (.convert s d x)=Tk P s d (ev x) K:=propext Iff.rfl
theorem Ss (T:TypeId)(x:Operand):ZN P ev σ K (.makeInterface T x)=Uf P T (ev x) K:=propext Iff.rfl
theorem Md (fn:Fn)(f c:List Operand):ZN P ev σ K (.makeFunc fn ⟨f⟩ ⟨c⟩)=mfK fn (cR (f.map ev)) (cR (c.map ev)) K:=propext Iff.rfl
theorem GT (t:TypeId)(x:Operand)(lo hi mx:Option Operand):ZN P ev σ K (.slice t x lo hi mx)=RD P t (ev x) (lo.map ev) (hi.map ev) (mx.map ev) K:=propext Iff.rfl
theorem OX (s:TypeId)(x:Operand)(f:Nat):ZN P ev σ K (.fieldAddr s x f)=WG P s (ev x) f K:=propext Iff.rfl
theorem GV (s:TypeId)(x:Operand)(f:Nat):ZN P ev σ K (.field s x f)=Wt P s (ev x) f K:=propext Iff.rfl
theorem OW (t:TypeId)(x i:Operand):ZN P ev σ K (.indexAddr t x i)=Yd P t (ev x) (ev i) K:=propext Iff.rfl
theorem GU (t:TypeId)(x i:Operand):ZN P ev σ K (.index t x i)=Vy P t (ev x) (ev i) K:=propext Iff.rfl
theorem L1 (x:Operand)(i:Nat):ZN P ev σ K (.extract x i)=XU (ev x) i K:=propext Iff.rfl
def Pj (P:Program)(f:AV)(args:List AV)(σ:Store)(K:AV→Prop):Prop:=∃ v,(∀ σ',XY σ σ'→Z0 P f args σ' (Yn v σ'))∧K v
theorem Pj.mk {f:AV}{args:List AV}{v:AV}(h:∀ σ',XY σ σ'→Z0 P f args σ' (Yn v σ'))(hk:K v):Pj P f args σ K:=⟨v,h,hk⟩
theorem DP (f:Operand)(args:List Operand)(ts:Array TypeId):ZN P ev σ K (.call ⟨.value f,⟨args⟩,ts⟩)=Pj P (ev f) (args.map ev) σ K:=propext Iff.rfl
def pbt (P:Program)(b:Builtin)(ts:List TypeId)(args:List AV)(σ:Store)(K:AV→Prop):Prop :=
 match b,ts,args with
 | .len,[t],[x]=>Ur P t x σ K
 | .max,_,xs=>amm true xs K
 | .min,_,xs=>amm false xs K
 | _,_,_=>False
theorem DT (t:TypeId)(x:AV):pbt P .len [t] [x] σ K=Ur P t x σ K:=propext Iff.rfl
theorem DS (ts:List TypeId)(xs:List AV):pbt P .max ts xs σ K=amm true xs K:=propext Iff.rfl
theorem DR (ts:List TypeId)(xs:List AV):pbt P .min ts xs σ K=amm false xs K:=propext Iff.rfl
theorem L3 (b:Builtin)(args:List Operand)(ts:List TypeId):ZN P ev σ K (.call ⟨.builtin b,⟨args⟩,⟨ts⟩⟩)=pbt P b ts (args.map ev) σ K:=by
 cases b<;>try rfl
 simp only [ZN,pbt]
 cases ts with
 | nil=>rfl
 | cons t r => cases r<;>cases args<;>try rfl
               all_goals (rename_i a b;cases b<;>rfl)
theorem Yl (op:BinOp)(T:TypeId)(x y:AV)(yc:Operand){v:AV}(h:Ys P op T x y (opC yc)=some v):XX P op T x y yc K=K v:=by
 simp only [XX,h]
theorem Ac (P:Program)(T:TypeId)(k:IntKind)(a b:Int)(yc:Operand)(K:AV→Prop):XX P .add T (.val (.int k a)) (.val (.int k b)) yc K=K (.val (.int k (k.wrap (a+b)))):=Yl _ _ _ _ _ (by simp [Ys])
theorem BS (P:Program)(T:TypeId)(k:IntKind)(a b:Int)(yc:Operand)(K:AV→Prop):XX P .sub T (.val (.int k a)) (.val (.int k b)) yc K=K (.val (.int k (k.wrap (a-b)))):=Yl _ _ _ _ _ (by simp [Ys])
theorem B3 (P:Program)(T:TypeId)(k:IntKind)(a b:Int)(yc:Operand)(K:AV→Prop):XX P .mul T (.val (.int k a)) (.val (.int k b)) yc K=K (.val (.int k (k.wrap (a * b)))):=Yl _ _ _ _ _ (by simp [Ys])
theorem B4 (P:Program)(T:TypeId)(k:IntKind)(a b:Int)(yc:Operand)(K:AV→Prop):XX P .lss T (.val (.int k a)) (.val (.int k b)) yc K=K (.val (.bool (decide (a<b)))):=Yl _ _ _ _ _ (by simp [Ys])
theorem B5 (P:Program)(T:TypeId)(k:IntKind)(a b:Int)(yc:Operand)(K:AV→Prop):XX P .leq T (.val (.int k a)) (.val (.int k b)) yc K=K (.val (.bool (decide (a≤b)))):=Yl _ _ _ _ _ (by simp [Ys])
theorem B6 (P:Program)(T:TypeId)(k:IntKind)(a b:Int)(yc:Operand)(K:AV→Prop):XX P .gtr T (.val (.int k a)) (.val (.int k b)) yc K=K (.val (.bool (decide (b<a)))):=Yl _ _ _ _ _ (by simp [Ys])
theorem B7 (P:Program)(T:TypeId)(k:IntKind)(a b:Int)(yc:Operand)(K:AV→Prop):XX P .geq T (.val (.int k a)) (.val (.int k b)) yc K=K (.val (.bool (decide (b≤a)))):=Yl _ _ _ _ _ (by simp [Ys])
theorem B8 (P:Program)(T:TypeId)(k:IntKind)(a b:Int)(yc:Operand)(K:AV→Prop):XX P .eql T (.val (.int k a)) (.val (.int k b)) yc K=K (.val (.bool (decide (a=b)))):=Yl _ _ _ _ _ (by simp [Ys])
theorem B2 (P:Program)(T:TypeId)(k:IntKind)(a b:Int)(yc:Operand)(K:AV→Prop):XX P .neq T (.val (.int k a)) (.val (.int k b)) yc K=K (.val (.bool (!decide (a=b)))):=Yl _ _ _ _ _ (by simp [Ys])
theorem B1 (P:Program)(T:TypeId)(k:IntKind)(a b:Int)(yc:Operand)(K:AV→Prop)(h:b≠0):XX P .quo T (.val (.int k a)) (.val (.int k b)) yc K=K (.val (.int k (k.wrap (a.tdiv b)))):=Yl _ _ _ _ _ (by simp [Ys,opC,h])
theorem B0 (P:Program)(T:TypeId)(k:IntKind)(a b:Int)(yc:Operand)(K:AV→Prop)(h:b≠0):XX P .rem T (.val (.int k a)) (.val (.int k b)) yc K=K (.val (.int k (a.tmod b))):=Yl _ _ _ _ _ (by simp [Ys,opC,h])
theorem BW (P:Program)(T:TypeId)(k k':IntKind)(a b:Int)(yc:Operand)(K:AV→Prop)(h:0≤b):XX P .shl T (.val (.int k a)) (.val (.int k' b)) yc K=K (.val (.int k (k.wrap (a * 2 ^ min b.toNat k.bits)))):=Yl _ _ _ _ _ (by simp [Ys,opC,h])
theorem BV (P:Program)(T:TypeId)(k k':IntKind)(a b:Int)(yc:Operand)(K:AV→Prop)(h:0≤b):XX P .shr T (.val (.int k a)) (.val (.int k' b)) yc K=K (.val (.int k (a.fdiv (2 ^ min b.toNat k.bits)))):=Yl _ _ _ _ _ (by simp [Ys,opC,h])
theorem BR (P:Program)(T:TypeId)(k:IntKind)(a b:Int)(yc:Operand)(K:AV→Prop):XX P .xor T (.val (.int k a)) (.val (.int k b)) yc K=K (.val (.int k (k.wrap (BitVec.ofInt k.bits a ^^^ BitVec.ofInt k.bits b).toNat))):=Yl _ _ _ _ _ (by simp [Ys])
theorem Ab (P:Program)(T:TypeId)(k:IntKind)(a b:Int)(yc:Operand)(K:AV→Prop):XX P .and T (.val (.int k a)) (.val (.int k b)) yc K=K (.val (.int k (k.wrap (BitVec.ofInt k.bits a &&& BitVec.ofInt k.bits b).toNat))):=Yl _ _ _ _ _ (by simp [Ys])
theorem BZ (P:Program)(T:TypeId)(a b:ByteArray)(yc:Operand)(K:AV→Prop):XX P .eql T (.val (.string a)) (.val (.string b)) yc K=K (.val (.bool (decide (a=b)))):=Yl _ _ _ _ _ (by simp [Ys])
theorem BT (P:Program)(T:TypeId)(a b:ByteArray)(yc:Operand)(K:AV→Prop):XX P .neq T (.val (.string a)) (.val (.string b)) yc K=K (.val (.bool (!decide (a=b)))):=Yl _ _ _ _ _ (by simp [Ys])
theorem BU (P:Program)(T:TypeId)(a b:ByteArray)(yc:Operand)(K:AV→Prop):XX P .lss T (.val (.string a)) (.val (.string b)) yc K=K (.val (.bool (decide (Op.bytesLess a.data.toList b.data.toList=true)))):=Yl _ _ _ _ _ (by simp [Ys])
theorem BX (P:Program)(T:TypeId)(a b:ByteArray)(yc:Operand)(K:AV→Prop):XX P .gtr T (.val (.string a)) (.val (.string b)) yc K=K (.val (.bool (!decide (Op.bytesLess a.data.toList b.data.toList=true∨a=b)))):=Yl _ _ _ _ _ (by simp [Ys])
theorem Aa (P:Program)(T:TypeId)(a b:Bool)(yc:Operand)(K:AV→Prop)(h:P.underlying T=some .bool):XX P .eql T (.val (.bool a)) (.val (.bool b)) yc K=K (.val (.bool (decide (a=b)))):=Yl _ _ _ _ _ (by simp [Ys,opC,h])
theorem B9 (P:Program)(T:TypeId)(a b:Bool)(yc:Operand)(K:AV→Prop)(h:P.underlying T=some .bool):XX P .neq T (.val (.bool a)) (.val (.bool b)) yc K=K (.val (.bool (!decide (a=b)))):=Yl _ _ _ _ _ (by simp [Ys,opC,h])
theorem GZ (P:Program)(T:TypeId)(c:Value)(K:AV→Prop)(h:ZK (P.underlying T)=true):XX P .neq T (.val .nilIface) (.val .nilIface) (.const c) K=K (.val (.bool false)):=Yl _ _ _ _ _ (by simp [Ys,opC,h])
theorem G0 (P:Program)(T:TypeId)(c:Value)(K:AV→Prop)(h:ZK (P.underlying T)=true):XX P .eql T (.val .nilIface) (.val .nilIface) (.const c) K=K (.val (.bool true)):=Yl _ _ _ _ _ (by simp [Ys,opC,h])
theorem DU (P:Program)(T t:TypeId)(v:Value)(yc:Operand)(K:AV→Prop)(h:ZK (P.underlying T)=true):XX P .neq T (.val (.iface t v)) (.val .nilIface) yc K=K (.val (.bool true)):=Yl _ _ _ _ _ (by simp [Ys,opC,h])
theorem DV (P:Program)(T t:TypeId)(v:Value)(yc:Operand)(K:AV→Prop)(h:ZK (P.underlying T)=true):XX P .eql T (.val (.iface t v)) (.val .nilIface) yc K=K (.val (.bool false)):=Yl _ _ _ _ _ (by simp [Ys,opC,h])
end
attribute [go_sem ↓]  EK KJ EO EL AF AE AD AC AB AA EP Hw EM EN CB E7 E6 E8 FD FE IV CI HA CG EZ AG
attribute [go_sem ↓]  EX PF CJ EQ M3 EY CF KN SP M4 NA ER NC EV NB EU KM PE ET CK
attribute [go_sem ↓]  CL KL Nz Hz Hy ES CH EW NF KO Fx Fv Cc Ce Cf Ms Fw IW Ki Pu Km My Nb Na I1 Mw HM E3 E2
attribute [go_sem ↓] aM aN AJ AK HE HG HF Cg Cu Fb Fz FA Iz
attribute [go_sem ↓]  HB Dg Kg IU IR CT CU FO I7 Cd Di Dj I8 I9 FB FC FP DN Ir DM
attribute [go_sem ↓]  BQ GW Po DO Mc GX DL L2 Ss Md GT OX GV OW GU L1 DP L3
attribute [go_sem]  GY It DQ Df EC Fh Is Y8 K2 Lj HR K3 F5 MH FV F0 FW FZ F3 F4
attribute [go_sem]  FX FY Ix Iy Iw E0 Io Ip DK of_nil of_cons Av Eg Hi Ct Fo II Mn Ps O6
attribute [go_sem]  Kb Fl Fp Fm IL Kc O7 Mo Pt Qw IJ IK Lu Lt NN Pl OA RM Rs Lr
attribute [go_sem]  Ls Ht KG Nu Hr Hs KF PC MZ Q6 MY KE EA Hu DY G9 L5 DW DX G8
attribute [go_sem]  Mf Iv O0 Iu G5 Ae PB D7 C2 C1 Zj Za Zy Yj Zk Sp Option.isSome_some El JB Fu Dd HI Gv KK Ee
attribute [go_sem]  Ef HO KZ FI RC FG SS PH PG Ch Ao Fe CX EE EG E5 E4 CN K9 IG
attribute [go_sem]  En Hm FH KX F6 Le ah AM AY AZ A0 A4 A5 A6 AX AW AU AQ AP AL
attribute [go_sem]  aa AS AN AO AR A8 A7 Dn Do C3 C4 K8 K7 HQ CC CD FL HL Lm NJ
attribute [go_sem]  EH HS EF Pg HK De KW Dm Eo HP Kq Kp CQ CP Db HC CO K5 C0 CZ
attribute [go_sem]  CY Vp Yr Un XG AV.toVal cR Value.cells if_true if_false List.map_cons List.map_nil List.getD_cons_zero List.getD_cons_succ List.getD_nil List.length_cons List.length_nil List.all_cons List.all_nil Bool.and_self
attribute [go_sem]  Bool.true_and Bool.and_true List.take_succ_cons List.take_zero List.take_nil List.drop_succ_cons List.drop_zero List.drop_nil List.cons_append List.nil_append List.append_nil List.head?_cons List.getElem?_cons_zero List.getElem?_cons_succ List.getElem?_nil List.getElem?_toArray Option.bind_some Option.bind_none Option.map_some Option.map_none
attribute [go_sem]  true_and and_true forall_const ne_eq not_false_eq_true not_true_eq_false false_implies true_implies Nat.zero_add Nat.add_zero Nat.le_refl eq_self Bool.not_true Bool.not_false Bool.true_eq_false Bool.false_eq_true imp_self implies_true List.size_toArray true_or
attribute [go_sem]  or_true CW Hl Ig EB DT DS DR Ac BS B3 B4 B5 B6 B7 B8 B2 B1 B0 BW
attribute [go_sem]  BV BR Ab BZ BT BU BX Aa B9 GZ G0 DU DV
end Go.Vx
