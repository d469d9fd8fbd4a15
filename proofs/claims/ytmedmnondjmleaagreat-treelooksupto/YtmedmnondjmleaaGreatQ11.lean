/- Part Q11 of the proof of treeLooksProved: the walk of the program on abstract values, and the plain law. -/
import Derived.Test.YtmedmnondjmleaaGreatQ10
set_option linter.unusedVariables false
set_option linter.unusedSimpArgs false
namespace Go.Vx
theorem DS (fr:Fr)(d:Nat)(v:AV)(i:Nat):(fr.put d v) i=if i=d then v else fr i:=rfl
theorem Io (fr:Fr)(d:Nat)(v:AV):fr.putO (some d) v=fr.put d v:=rfl
theorem Ip (fr:Fr)(v:AV):fr.putO none v=fr:=rfl
theorem Da (as:List AV)(i:Nat):Fr.args as i=as.getD i (.val undef):=rfl
theorem of_nil (i:Nat):Fr.of [] i=.any:=rfl
theorem of_cons (j:Nat)(v:AV)(l:List (Nat×AV))(i:Nat):Fr.of ((j,v)::l) i=if i=j then v else Fr.of l i:=rfl
theorem AC (fr:Fr)(t:Nat):fr.ev (.tmp t)=fr t:=rfl
theorem Es (fr:Fr)(v:Value):fr.ev (.const v)=cW v:=rfl
theorem Hi (fr:Fr)(g:Nat):fr.ev (.global g)=.val (.pointer (some ⟨g,0,none⟩)):=rfl
theorem CE (fr:Fr)(g:Nat):fr.ev (.func g)=.val (.func (.func g) #[] #[]):=rfl
theorem Fy (k:IntKind)(n:Int):cW (.int k n)=.val (.int k n):=rfl
theorem IG (b:Bool):cW (.bool b)=.val (.bool b):=rfl
theorem Mm (s:ByteArray):cW (.string s)=.val (.string s):=rfl
theorem Po:cW .nilIface=.val .nilIface:=rfl
theorem O4:cW .nilFunc=.val .nilFunc:=rfl
theorem L7:cW (.slice none 0 0)=.list .full 0 []:=rfl
theorem Fw (p:Option Addr):cW (.pointer p)=.val (.pointer p):=rfl
theorem Fz (l:List Value):cW (.agg ⟨l⟩)=.agg (l.map cM):=rfl
theorem IK (k:IntKind)(n:Int):cM (.int k n)=.val (.int k n):=rfl
theorem L8 (b:Bool):cM (.bool b)=.val (.bool b):=rfl
theorem O5 (s:ByteArray):cM (.string s)=.val (.string s):=rfl
theorem Mn:cM (.slice none 0 0)=.list .full 0 []:=rfl
theorem Pq:cM .nilFunc=.val .nilFunc:=rfl
theorem Qq:cM .nilIface=.val .nilIface:=rfl
theorem II (p:Option Addr):cM (.pointer p)=.val (.pointer p):=rfl
theorem IJ (p:Option Nat):cM (.map p)=.val (.map p):=rfl
theorem Fx (p:Option Nat):cW (.map p)=.val (.map p):=rfl
theorem Lq (l:List Value):YL (.agg ⟨l⟩)=l.map cM:=rfl
theorem Lp (k:IntKind)(n:Int):YL (.int k n)=[.val (.int k n)]:=rfl
theorem NM (b:Bool):YL (.bool b)=[.val (.bool b)]:=rfl
theorem Ph (s:ByteArray):YL (.string s)=[.val (.string s)]:=rfl
theorem OA:YL (.slice none 0 0)=[.list .full 0 []]:=rfl
theorem RJ:YL .nilFunc=[.val .nilFunc]:=rfl
theorem Rk:YL .nilIface=[.val .nilIface]:=rfl
theorem Ln (p:Option Addr):YL (.pointer p)=[.val (.pointer p)]:=rfl
theorem Lo (p:Option Nat):YL (.map p)=[.val (.map p)]:=rfl
def bI (P:Program)(mu:List Nat)(ops:Array Oper)(Q:Exit→Fr→Store→Prop)(σ:Store)(p:Nat×Nat)(l:List Oper)(fr:Fr):Prop:=adk P mu ops Q σ p.2 p.1 l fr
theorem C7 (P:Program)(mu:List Nat)(ops:Array Oper)(Q:Exit→Fr→Store→Prop)(σ:Store)(m k:Nat)(l:List Oper)(fr:Fr):bI P mu ops Q σ (m,k) l fr=adk P mu ops Q σ k m l fr:=propext Iff.rfl
theorem AQ (P:Program)(mu:List Nat)(ops:Array Oper)(Q:Exit→Fr→Store→Prop)(σ:Store)(m k:Nat)(l:List Oper)(fr:Fr)(h:k<3):adk P mu ops Q σ k m l fr=ahd P mu ops Q σ k m l fr:=by unfold adk;rw [if_neg (by omega)]
def BJ:Store→Prop:=fun _=>True
theorem AR (P:Program)(mu:List Nat)(ops:Array Oper)(Q:Exit→Fr→Store→Prop)(σ:Store)(m k:Nat)(l:List Oper)(fr:Fr)(h:2<k):adk P mu ops Q σ k m l fr=Rr P mu ops Q σ (m-(k-3)-1) (k-3) l BJ fr:=by unfold adk;rw [if_pos (by omega)];rfl
theorem Iz (σ:Store):BJ σ=True:=rfl
theorem HG (P:Program)(mu:List Nat)(ops:Array Oper)(Q:Exit→Fr→Store→Prop)(σ:Store)(m:Nat)(d:Nat)(op:Op)(ty:TypeId)(pos:String)(af:Array Edge)(r:List Oper)(O:Store→Prop)(fr:Fr) :
 Rr P mu ops Q σ m 0 (⟨some d,op,ty,pos,af,none⟩::r) O fr=ZB P (mu.contains d) fr.ev σ (Kg P mu ops Q O m r fr (some d)) op:=by simp only [Rr,true_and]
theorem HI (P:Program)(mu:List Nat)(ops:Array Oper)(Q:Exit→Fr→Store→Prop)(σ:Store)(m:Nat)(op:Op)(ty:TypeId)(pos:String)(af:Array Edge)(r:List Oper)(O:Store→Prop)(fr:Fr) :
 Rr P mu ops Q σ m 0 (⟨none,op,ty,pos,af,none⟩::r) O fr=ZB P false fr.ev σ (Kg P mu ops Q O m r fr none) op:=by simp only [Rr,true_and]
theorem HH (P:Program)(mu:List Nat)(ops:Array Oper)(Q:Exit→Fr→Store→Prop)(σ:Store)(m s:Nat)(d:Option Nat)(op:Op)(ty:TypeId)(pos:String)(af:Array Edge)(r:List Oper)(O:Store→Prop)(fr:Fr) :
 Rr P mu ops Q σ m (s+1) (⟨d,op,ty,pos,af,none⟩::r) O fr=ZL P fr.ev σ (kOb P (Rr P mu ops Q σ m s r) O fr d op) op:=by simp only [Rr,true_and]
theorem Cr (P:Program)(k:(Store→Prop)→Fr→Prop)(O:Store→Prop)(fr:Fr)(d:Option Nat)(op:Op)(v:AV):kOb P k O fr d op v=k (An P O fr op v) (fr.putO d v):=rfl
def eqV (v:AV):AV→Prop:=fun u=>u=v
theorem CF (v u:AV):eqV v u=(u=v):=rfl
theorem Fh (P:Program)(O:Store→Prop)(fr:Fr)(op:Op)(v:AV)(σ':Store):An P O fr op v σ'=(O σ'∧ZL P fr.ev σ' (eqV v) op):=rfl
theorem FK (P:Program)(mu:List Nat)(ops:Array Oper)(Q:Exit→Fr→Store→Prop)(O:Store→Prop)(m:Nat)(r:List Oper)(fr:Fr)(d:Option Nat)(v:AV)(σ':Store):Kg P mu ops Q O m r fr d (.ret v) σ'=(O σ'∧ahd P mu ops Q σ' 0 m r (fr.putO d v)):=rfl
theorem FL (P:Program)(mu:List Nat)(ops:Array Oper)(Q:Exit→Fr→Store→Prop)(O:Store→Prop)(m:Nat)(r:List Oper)(fr:Fr)(d:Option Nat)(v:Value)(σ':Store):Kg P mu ops Q O m r fr d (.pan v) σ'=∀ fr',Q (.panic [{ v:=v,recovered:=false }]) fr' σ':=rfl
theorem Hl (i m k:Nat)(r:List (Nat×Nat×Nat))(id:Nat):Rn ((i,m,k)::r) id=if i=id then (m,k) else Rn r id:=rfl
theorem Dq (P:Program)(mu:List Nat)(ops:Array Oper)(Q:Exit→Fr→Store→Prop)(σ:Store)(k:Nat)(l:List Oper)(fr:Fr):ahd P mu ops Q σ k 0 l fr=Qu P mu ops Q σ l k fr:=propext Iff.rfl
theorem Kd (P:Program)(mu:List Nat)(ops:Array Oper)(Q:Exit→Fr→Store→Prop)(σ:Store)(l:List Oper)(fr:Fr):Qu P mu ops Q σ l 0 fr=Y7 P mu ops l Q fr σ:=propext Iff.rfl
theorem IU (P:Program)(mu:List Nat)(ops:Array Oper)(Q:Exit→Fr→Store→Prop)(σ:Store)(l:List Oper)(fr:Fr):Qu P mu ops Q σ l 1 fr=Lb P mu ops false Q σ l fr:=propext Iff.rfl
theorem IR (P:Program)(mu:List Nat)(ops:Array Oper)(Q:Exit→Fr→Store→Prop)(σ:Store)(l:List Oper)(fr:Fr):Qu P mu ops Q σ l 2 fr=Lb P mu ops true Q σ l fr:=propext Iff.rfl
theorem C5 (P:Program)(mu:List Nat)(ops:Array Oper)(Q:Exit→Fr→Store→Prop)(σ:Store)(k m:Nat)(d:Option Nat)(op:Op)(ty:TypeId)(pos:String)(af:Array Edge)(r:List Oper)(fr:Fr) :
 ahd P mu ops Q σ k (m+1) (⟨d,op,ty,pos,af,none⟩::r) fr=ZL P fr.ev σ (kPs (ahd P mu ops Q σ k m r) fr d) op:=propext Iff.rfl
theorem C6 (P:Program)(mu:List Nat)(ops:Array Oper)(Q:Exit→Fr→Store→Prop)(σ:Store)(k m:Nat)(d:Option Nat)(op:Op)(ty:TypeId)(pos:String)(af:Array Edge)(g:Nat×Bool)(r:List Oper)(fr:Fr) :
 ahd P mu ops Q σ k (m+1) (⟨d,op,ty,pos,af,some g⟩::r) fr=XJ ops (some g) fr (Cv P (ahd P mu ops Q σ k m r) σ ⟨d,op,ty,pos,af,some g⟩) (JM (ahd P mu ops Q σ k m r) d):=propext Iff.rfl
theorem FY (P:Program)(k:Fr→Prop)(σ:Store)(d:Option Nat)(op:Op)(ty:TypeId)(pos:String)(af:Array Edge)(g:Option (Nat×Bool))(fr:Fr):Cv P k σ ⟨d,op,ty,pos,af,g⟩ fr=ZL P fr.ev σ (kPs k fr d) op:=propext Iff.rfl
theorem I7 (k:Fr→Prop)(d:Option Nat)(fr:Fr):JM k d fr=k (fr.putO d (.val undef)):=propext Iff.rfl
theorem Co (k:Fr→Prop)(fr:Fr)(d:Option Nat)(v:AV):kPs k fr d v=k (fr.putO d v):=propext Iff.rfl
theorem Ds (P:Program)(mu:List Nat)(ops:Array Oper)(fb:Bool)(Q:Exit→Fr→Store→Prop)(σ:Store)(d:Option Nat)(op:Op)(ty:TypeId)(pos:String)(af:Array Edge)(r:List Oper)(fr:Fr) :
 Lb P mu ops fb Q σ (⟨d,op,ty,pos,af,none⟩::r) fr=F0 P mu (Y7 P mu ops r) Q fb σ ⟨d,op,ty,pos,af,none⟩ fr:=propext Iff.rfl
theorem Dt (P:Program)(mu:List Nat)(ops:Array Oper)(fb:Bool)(Q:Exit→Fr→Store→Prop)(σ:Store)(d:Option Nat)(op:Op)(ty:TypeId)(pos:String)(af:Array Edge)(g:Nat×Bool)(r:List Oper)(fr:Fr) :
 Lb P mu ops fb Q σ (⟨d,op,ty,pos,af,some g⟩::r) fr=XJ ops (some g) fr (F0 P mu (Y7 P mu ops r) Q fb σ ⟨d,op,ty,pos,af,some g⟩) (Az (Y7 P mu ops r) Q σ d):=propext Iff.rfl
theorem I8 (P:Program)(mu:List Nat)(k:((Exit→Fr→Store→Prop)→Fr→Store→Prop))(Q:Exit→Fr→Store→Prop)(fb:Bool)(σ:Store)(d:Nat)(op:Op)(ty:TypeId)(pos:String)(af:Array Edge)(g:Option (Nat×Bool))(fr:Fr) :
 F0 P mu k Q fb σ ⟨some d,op,ty,pos,af,g⟩ fr=ZB P (mu.contains d) fr.ev σ (I0 k Q fb fr (some d) σ) op:=propext Iff.rfl
theorem I9 (P:Program)(mu:List Nat)(k:((Exit→Fr→Store→Prop)→Fr→Store→Prop))(Q:Exit→Fr→Store→Prop)(fb:Bool)(σ:Store)(op:Op)(ty:TypeId)(pos:String)(af:Array Edge)(g:Option (Nat×Bool))(fr:Fr) :
 F0 P mu k Q fb σ ⟨none,op,ty,pos,af,g⟩ fr=ZB P false fr.ev σ (I0 k Q fb fr none σ) op:=propext Iff.rfl
theorem FM (k:((Exit→Fr→Store→Prop)→Fr→Store→Prop))(Q:Exit→Fr→Store→Prop)(fb:Bool)(fr:Fr)(d:Option Nat)(σ σ':Store)(v:AV):I0 k Q fb fr d σ (.ret v) σ'=((fb=true∨XS σ σ')∧k Q (fr.putO d v) σ'):=propext Iff.rfl
theorem FN (k:((Exit→Fr→Store→Prop)→Fr→Store→Prop))(Q:Exit→Fr→Store→Prop)(fb:Bool)(fr:Fr)(d:Option Nat)(σ σ':Store)(v:Value):I0 k Q fb fr d σ (.pan v) σ'=False:=propext Iff.rfl
theorem FZ (k:((Exit→Fr→Store→Prop)→Fr→Store→Prop))(Q:Exit→Fr→Store→Prop)(σ:Store)(d:Option Nat)(fr:Fr):Az k Q σ d fr=k Q (fr.putO d (.val undef)) σ:=propext Iff.rfl
theorem Ih (σ:Store):XS σ σ=True:=eq_true (.refl σ)
theorem EU (P:Program)(n:Nat)(ds:List Deferred)(mu:List Nat)(dr:List (Nat×Nat×Nat))(Q:Exit→Fr→Store→Prop)(fr:Fr)(σ:Store):avc P n ds mu dr .skip Q fr σ=Q .normal fr σ:=propext Iff.rfl
theorem KF (P:Program)(n:Nat)(ds:List Deferred)(mu:List Nat)(dr:List (Nat×Nat×Nat))(id:Nat)(l:List Oper)(Q:Exit→Fr→Store→Prop)(fr:Fr)(σ:Store):avc P n ds mu dr (.region id ⟨l⟩ false) Q fr σ=Y7 P mu ⟨l⟩ l Q fr σ:=propext Iff.rfl
theorem EY (P:Program)(n:Nat)(ds:List Deferred)(mu:List Nat)(dr:List (Nat×Nat×Nat))(id:Nat)(l:List Oper)(Q:Exit→Fr→Store→Prop)(fr:Fr)(σ:Store):avc P n ds mu dr (.region id ⟨l⟩ true) Q fr σ=bI P mu ⟨l⟩ Q σ (Rn dr id) l fr:=propext Iff.rfl
def sqA (P:Program)(n:Nat)(ds:List Deferred)(mu:List Nat)(dr:List (Nat×Nat×Nat))(r:Nat×Nat)(a b:Code)(Q:Exit→Fr→Store→Prop)(fr:Fr)(σ:Store):Prop :=
 if 1000≤r.1 then AWp P n ds (.seq a b) Q fr σ else avc P n ds mu dr a (Ux (avc P n ds mu dr b) Q) fr σ
theorem aR (P:Program)(n:Nat)(ds:List Deferred)(mu:List Nat)(dr:List (Nat×Nat×Nat))(m k:Nat)(a b:Code)(Q:Exit→Fr→Store→Prop)(fr:Fr)(σ:Store)(h:999<m):sqA P n ds mu dr (m,k) a b Q fr σ=AWp P n ds (.seq a b) Q fr σ:=by unfold sqA;rw [if_pos (by simp only;omega)]
theorem aS (P:Program)(n:Nat)(ds:List Deferred)(mu:List Nat)(dr:List (Nat×Nat×Nat))(m k:Nat)(a b:Code)(Q:Exit→Fr→Store→Prop)(fr:Fr)(σ:Store)(h:m<1000):sqA P n ds mu dr (m,k) a b Q fr σ=avc P n ds mu dr a (Ux (avc P n ds mu dr b) Q) fr σ:=by unfold sqA;rw [if_neg (by simp only;omega)]
theorem W0 (P:Program)(n:Nat)(ds:List Deferred)(mu:List Nat)(dr:List (Nat×Nat×Nat))(a b:Code)(Q:Exit→Fr→Store→Prop)(fr:Fr)(σ:Store)(h:In dr a=false):avc P n ds mu dr (.seq a b) Q fr σ=avc P n ds mu dr a (Ux (avc P n ds mu dr b) Q) fr σ:=by simp only [avc,h,Bool.false_eq_true,if_false]
theorem EV (P:Program)(n:Nat)(ds:List Deferred)(mu:List Nat)(dr:List (Nat×Nat×Nat))(id:Nat)(l:Array Oper)(b:Code)(Q:Exit→Fr→Store→Prop)(fr:Fr)(σ:Store):avc P n ds mu dr (.seq (.region id l true) b) Q fr σ=sqA P n ds mu dr (Rn dr id) (.region id l true) b Q fr σ:=by
 by_cases h:1000≤(Rn dr id).1
 ·unfold sqA;rw [if_pos h];simp only [avc,In,decide_eq_true h,if_true]
 ·unfold sqA;rw [if_neg h];exact W0 _ _ _ _ _ _ _ _ _ _ (by simp only [In];exact decide_eq_false h)
theorem AN (P:Program)(n:Nat)(ds:List Deferred)(mu:List Nat)(dr:List (Nat×Nat×Nat))(id:Nat)(l:Array Oper)(b:Code)(Q:Exit→Fr→Store→Prop)(fr:Fr)(σ:Store):avc P n ds mu dr (.seq (.region id l false) b) Q fr σ=avc P n ds mu dr (.region id l false) (Ux (avc P n ds mu dr b) Q) fr σ:=W0 _ _ _ _ _ _ _ _ _ _ rfl
theorem AM (P:Program)(n:Nat)(ds:List Deferred)(mu:List Nat)(dr:List (Nat×Nat×Nat))(x y b:Code)(Q:Exit→Fr→Store→Prop)(fr:Fr)(σ:Store):avc P n ds mu dr (.seq (.seq x y) b) Q fr σ=avc P n ds mu dr (.seq x y) (Ux (avc P n ds mu dr b) Q) fr σ:=W0 _ _ _ _ _ _ _ _ _ _ rfl
theorem AL (P:Program)(n:Nat)(ds:List Deferred)(mu:List Nat)(dr:List (Nat×Nat×Nat))(c:Operand)(x y b:Code)(Q:Exit→Fr→Store→Prop)(fr:Fr)(σ:Store):avc P n ds mu dr (.seq (.cond c x y) b) Q fr σ=avc P n ds mu dr (.cond c x y) (Ux (avc P n ds mu dr b) Q) fr σ:=W0 _ _ _ _ _ _ _ _ _ _ rfl
theorem AK (P:Program)(n:Nat)(ds:List Deferred)(mu:List Nat)(dr:List (Nat×Nat×Nat))(i:Nat)(x b:Code)(Q:Exit→Fr→Store→Prop)(fr:Fr)(σ:Store):avc P n ds mu dr (.seq (.block i x) b) Q fr σ=avc P n ds mu dr (.block i x) (Ux (avc P n ds mu dr b) Q) fr σ:=W0 _ _ _ _ _ _ _ _ _ _ rfl
theorem AJ (P:Program)(n:Nat)(ds:List Deferred)(mu:List Nat)(dr:List (Nat×Nat×Nat))(x b:Code)(Q:Exit→Fr→Store→Prop)(fr:Fr)(σ:Store):avc P n ds mu dr (.seq (.loop x) b) Q fr σ=avc P n ds mu dr (.loop x) (Ux (avc P n ds mu dr b) Q) fr σ:=W0 _ _ _ _ _ _ _ _ _ _ rfl
theorem AH (P:Program)(n:Nat)(ds:List Deferred)(mu:List Nat)(dr:List (Nat×Nat×Nat))(b:Code)(Q:Exit→Fr→Store→Prop)(fr:Fr)(σ:Store):avc P n ds mu dr (.seq .skip b) Q fr σ=avc P n ds mu dr .skip (Ux (avc P n ds mu dr b) Q) fr σ:=W0 _ _ _ _ _ _ _ _ _ _ rfl
theorem EZ (P:Program)(n:Nat)(ds:List Deferred)(mu:List Nat)(dr:List (Nat×Nat×Nat))(c:Operand)(a b:Code)(Q:Exit→Fr→Store→Prop)(fr:Fr)(σ:Store):avc P n ds mu dr (.cond c a b) Q fr σ=UJ (fr.ev c) (avc P n ds mu dr a) (avc P n ds mu dr b) Q fr σ:=propext Iff.rfl
theorem Hy (P:Program)(n:Nat)(ds:List Deferred)(mu:List Nat)(dr:List (Nat×Nat×Nat))(id:Nat)(a:Code)(Q:Exit→Fr→Store→Prop)(fr:Fr)(σ:Store):avc P n ds mu dr (.block id a) Q fr σ=avc P n ds mu dr a (VT id Q) fr σ:=propext Iff.rfl
theorem EW (P:Program)(n:Nat)(ds:List Deferred)(mu:List Nat)(dr:List (Nat×Nat×Nat))(a:Code)(Q:Exit→Fr→Store→Prop)(fr:Fr)(σ:Store):avc P n ds mu dr (.loop a) Q fr σ=AWp P n ds (.loop a) Q fr σ:=propext Iff.rfl
theorem EX (P:Program)(n:Nat)(ds:List Deferred)(mu:List Nat)(dr:List (Nat×Nat×Nat))(id:Nat)(Q:Exit→Fr→Store→Prop)(fr:Fr)(σ:Store):avc P n ds mu dr (.exit id) Q fr σ=Q (.exit id) fr σ:=propext Iff.rfl
theorem CN (P:Program)(n:Nat)(ds:List Deferred)(mu:List Nat)(dr:List (Nat×Nat×Nat))(Q:Exit→Fr→Store→Prop)(fr:Fr)(σ:Store):avc P n ds mu dr .ret Q fr σ=Q .ret fr σ:=propext Iff.rfl
theorem ZU (ops:Array Oper)(fr:Fr)(A B:Fr→Prop):XJ ops none fr A B=A fr:=propext Iff.rfl
theorem Cp (k:((Exit→Fr→Store→Prop)→Fr→Store→Prop))(Q:Exit→Fr→Store→Prop)(fr:Fr)(d:Option Nat)(v:AV)(σ:Store):kOp k Q fr d (.ret v) σ=k Q (fr.putO d v) σ:=propext Iff.rfl
theorem Cq (k:((Exit→Fr→Store→Prop)→Fr→Store→Prop))(Q:Exit→Fr→Store→Prop)(fr:Fr)(d:Option Nat)(v:Value)(σ:Store):kOp k Q fr d (.pan v) σ=Q (.panic [{ v:=v,recovered:=false }]) fr σ:=propext Iff.rfl
theorem Ms (k:((Exit→Fr→Store→Prop)→Fr→Store→Prop))(Q:Exit→Fr→Store→Prop)(fr:Fr)(σ:Store):Ux k Q .normal fr σ=k Q fr σ:=propext Iff.rfl
theorem FH (k:((Exit→Fr→Store→Prop)→Fr→Store→Prop))(Q:Exit→Fr→Store→Prop)(fr:Fr)(σ:Store):Ux k Q .ret fr σ=Q .ret fr σ:=propext Iff.rfl
theorem IW (k:((Exit→Fr→Store→Prop)→Fr→Store→Prop))(Q:Exit→Fr→Store→Prop)(i:Nat)(fr:Fr)(σ:Store):Ux k Q (.exit i) fr σ=Q (.exit i) fr σ:=propext Iff.rfl
theorem Kf (k:((Exit→Fr→Store→Prop)→Fr→Store→Prop))(Q:Exit→Fr→Store→Prop)(c:List PanicEntry)(fr:Fr)(σ:Store):Ux k Q (.panic c) fr σ=Q (.panic c) fr σ:=propext Iff.rfl
theorem Pr (id:Nat)(Q:Exit→Fr→Store→Prop)(fr:Fr)(σ:Store):VT id Q .normal fr σ=Q .normal fr σ:=propext Iff.rfl
theorem Kj (id:Nat)(Q:Exit→Fr→Store→Prop)(fr:Fr)(σ:Store):VT id Q .ret fr σ=Q .ret fr σ:=propext Iff.rfl
theorem My (id:Nat)(Q:Exit→Fr→Store→Prop)(i:Nat)(fr:Fr)(σ:Store):VT id Q (.exit i) fr σ=if i=id then Q .normal fr σ else Q (.exit i) fr σ:=propext Iff.rfl
theorem Na (id:Nat)(Q:Exit→Fr→Store→Prop)(c:List PanicEntry)(fr:Fr)(σ:Store):VT id Q (.panic c) fr σ=Q (.panic c) fr σ:=propext Iff.rfl
theorem O9 (P:Program)(rs:List ResultVar)(R:ZO→Store→Prop)(fr:Fr)(σ:Store):Mx P rs R .normal fr σ=U5 P rs fr σ fun l=>Tw R (db l) σ:=propext Iff.rfl
theorem I1 (P:Program)(rs:List ResultVar)(R:ZO→Store→Prop)(fr:Fr)(σ:Store):Mx P rs R .ret fr σ=U5 P rs fr σ fun l=>Tw R (db l) σ:=propext Iff.rfl
theorem Mw (P:Program)(rs:List ResultVar)(R:ZO→Store→Prop)(pv:Value)(fr:Fr)(σ:Store):Mx P rs R (.panic [{ v:=pv,recovered:=false }]) fr σ=HX R pv σ:=by
 simp only [Mx,eq_iff_iff]
 constructor
 ·rintro ⟨x,hx,h⟩
  injection hx with hx _
  injection hx with hx
  subst hx
  exact h
 ·intro h;exact ⟨_,rfl,h⟩
theorem KY (A B:((Exit→Fr→Store→Prop)→Fr→Store→Prop))(Q:Exit→Fr→Store→Prop)(fr:Fr)(σ:Store):UJ (.val (.bool true)) A B Q fr σ=A Q fr σ:=by simp [UJ]
theorem Lf (A B:((Exit→Fr→Store→Prop)→Fr→Store→Prop))(Q:Exit→Fr→Store→Prop)(fr:Fr)(σ:Store):UJ (.val (.bool false)) A B Q fr σ=B Q fr σ:=by simp [UJ]
theorem HT (p:Prop)[Decidable p](A B:((Exit→Fr→Store→Prop)→Fr→Store→Prop))(Q:Exit→Fr→Store→Prop)(fr:Fr)(σ:Store):UJ (.val (.bool (decide p))) A B Q fr σ=((p→A Q fr σ)∧(¬ p→B Q fr σ)):=by simp [UJ]
theorem KZ (p:Prop)[Decidable p](A B:((Exit→Fr→Store→Prop)→Fr→Store→Prop))(Q:Exit→Fr→Store→Prop)(fr:Fr)(σ:Store):UJ (.val (.bool (!decide p))) A B Q fr σ=((¬ p→A Q fr σ)∧(p→B Q fr σ)):=by simp [UJ]
theorem FI (K:ZO→Store→Prop)(σ:Store)(v:AV):Y2 K σ v=K (.ret v) σ:=propext Iff.rfl
theorem FG (K:ZO→Store→Prop)(σ:Store):Ke K σ=K (.ret .any) σ:=propext Iff.rfl
theorem Cn (K:ZO→Store→Prop)(v:AV)(σ:Store):kRs K v σ=K (.ret v) σ:=propext Iff.rfl
theorem IV (k:((Exit→Fr→Store→Prop)→Fr→Store→Prop))(Q:Exit→Fr→Store→Prop)(σ:Store)(d:Option Nat)(fr:Fr):Oc k Q σ d fr=k Q (fr.putO d (.val undef)) σ:=propext Iff.rfl
theorem FO (P:Program)(mu:List Nat)(k:((Exit→Fr→Store→Prop)→Fr→Store→Prop))(Q:Exit→Fr→Store→Prop)(σ:Store)(d:Nat)(op:Op)(ty:TypeId)(pos:String)(af:Array Edge)(g:Option (Nat×Bool))(fr:Fr) :
 kDo P mu k Q σ ⟨some d,op,ty,pos,af,g⟩ fr=ZB P (mu.contains d) fr.ev σ (kOp k Q fr (some d)) op:=propext Iff.rfl
theorem FP (P:Program)(mu:List Nat)(k:((Exit→Fr→Store→Prop)→Fr→Store→Prop))(Q:Exit→Fr→Store→Prop)(σ:Store)(op:Op)(ty:TypeId)(pos:String)(af:Array Edge)(g:Option (Nat×Bool))(fr:Fr) :
 kDo P mu k Q σ ⟨none,op,ty,pos,af,g⟩ fr=ZB P false fr.ev σ (kOp k Q fr none) op:=propext Iff.rfl
theorem Dh (P:Program)(mu:List Nat)(ops:Array Oper)(Q:Exit→Fr→Store→Prop)(fr:Fr)(σ:Store):Y7 P mu ops [] Q fr σ=Q .normal fr σ:=propext Iff.rfl
theorem Dg (P:Program)(mu:List Nat)(ops:Array Oper)(r:List Oper)(Q:Exit→Fr→Store→Prop)(d:Option Nat)(op:Op)(ty:TypeId)(pos:String)(af:Array Edge)(fr:Fr)(σ:Store) :
 Y7 P mu ops (⟨d,op,ty,pos,af,none⟩::r) Q fr σ=kDo P mu (Y7 P mu ops r) Q σ ⟨d,op,ty,pos,af,none⟩ fr:=propext Iff.rfl
theorem Di (P:Program)(mu:List Nat)(ops:Array Oper)(r:List Oper)(Q:Exit→Fr→Store→Prop)(d:Option Nat)(op:Op)(ty:TypeId)(pos:String)(af:Array Edge)(g:Nat×Bool)(fr:Fr)(σ:Store) :
 Y7 P mu ops (⟨d,op,ty,pos,af,some g⟩::r) Q fr σ=XJ ops (some g) fr (kDo P mu (Y7 P mu ops r) Q σ ⟨d,op,ty,pos,af,some g⟩) (Oc (Y7 P mu ops r) Q σ d):=propext Iff.rfl
theorem Dd (P:Program)(fr:Fr)(σ:Store)(K:List AV→Prop):U5 P [] fr σ K=K []:=propext Iff.rfl
theorem Dc (P:Program)(t:Nat)(r:List ResultVar)(fr:Fr)(σ:Store)(K:List AV→Prop):U5 P (.tmp t::r) fr σ K=U5 P r fr σ fun l=>K (fr t::l):=propext Iff.rfl
theorem HD (P:Program)(a T:Nat)(r:List ResultVar)(fr:Fr)(σ:Store)(K:List AV→Prop):U5 P (.cell a T::r) fr σ K=Wg P T (fr a) σ fun v=>U5 P r fr σ fun l=>K (v::l):=propext Iff.rfl
theorem Ix (v:AV):db [v]=v:=rfl
theorem Iy:db []=.tup []:=rfl
theorem Iw (a b:AV)(l:List AV):db (a::b::l)=.tup (a::b::l):=rfl
theorem Ht (k:IntKind)(n:Int):AV.cells (.val (.int k n))=some [.val (.int k n)]:=rfl
theorem KC (b:Bool):AV.cells (.val (.bool b))=some [.val (.bool b)]:=rfl
theorem Ns (s:ByteArray):AV.cells (.val (.string s))=some [.val (.string s)]:=rfl
theorem Hr (p:Option Addr):AV.cells (.val (.pointer p))=some [.val (.pointer p)]:=rfl
theorem Hs (p:Option Nat):AV.cells (.val (.map p))=some [.val (.map p)]:=rfl
theorem KB (f:Fn)(a b:Array Value):AV.cells (.val (.func f a b))=some [.val (.func f a b)]:=rfl
theorem PA:AV.cells (.val .nilFunc)=some [.val .nilFunc]:=rfl
theorem MT (t:Nat)(v:Value):AV.cells (.val (.iface t v))=some [.val (.iface t v)]:=rfl
theorem QZ:AV.cells (.val .nilIface)=some [.val .nilIface]:=rfl
theorem MS (a:Option Addr)(n c:Nat):AV.cells (.val (.slice a n c))=some [.val (.slice a n c)]:=rfl
theorem KA (r:Rt)(s:Nat)(es:List (List AV)):AV.cells (.list r s es)=some [.list r s es]:=rfl
theorem EK (cs:List AV):AV.cells (.ro cs)=some [.ro cs]:=rfl
theorem Hu (cs:List AV):AV.cells (.agg cs)=some cs:=rfl
theorem D7 (k:IntKind)(n:Int):AV.one (.val (.int k n))=true:=rfl
theorem Ff (b:Bool):AV.one (.val (.bool b))=true:=rfl
theorem L0 (s:ByteArray):AV.one (.val (.string s))=true:=rfl
theorem D5 (p:Option Addr):AV.one (.val (.pointer p))=true:=rfl
theorem D6 (p:Option Nat):AV.one (.val (.map p))=true:=rfl
theorem Fe (f:Fn)(a b:Array Value):AV.one (.val (.func f a b))=true:=rfl
theorem Me:AV.one (.val .nilFunc)=true:=rfl
theorem Iv (t:Nat)(v:Value):AV.one (.val (.iface t v))=true:=rfl
theorem OY:AV.one (.val .nilIface)=true:=rfl
theorem Iu (a:Option Addr)(n c:Nat):AV.one (.val (.slice a n c))=true:=rfl
theorem Fd (r:Rt)(s:Nat)(es:List (List AV)):AV.one (.list r s es)=true:=rfl
theorem Am (cs:List AV):AV.one (.ro cs)=true:=rfl
def Cg (d:Nat):List Nat→Bool
 | []=>false
 | x::r=>if d=x then true else Cg d r
theorem Pz (l:List Nat)(d:Nat):l.contains d=Cg d l:=by
 induction l with
 | nil=>rfl
 | cons x r ih=>simp only [List.contains_cons,ih,Cg];split<;>simp_all
theorem Bd (cs:List AV)(σ:Store)(K:ZO→Store→Prop):Pd true cs σ K=∀ b,Zx σ b→K (.ret (.val (.pointer (some ⟨b,0,none⟩)))) ((b,.cells cs)::σ):=propext Iff.rfl
theorem Bc (cs:List AV)(σ:Store)(K:ZO→Store→Prop):Pd false cs σ K=(cs.all AV.one=true∧K (.ret (.ro cs)) σ):=propext Iff.rfl
theorem Zi (b:Nat)(x:AObj)(r:Store):Store.get ((b,x)::r) b=some x:=by simp [Store.get]
theorem Za {b' b:Nat}(h:b'≠b)(x:AObj)(r:Store):Store.get ((b',x)::r) b=Store.get r b:=by simp only [Store.get];rw [if_neg h]
theorem Zy {b b':Nat}{r:Store}(h:Zx r b)(g:(Store.get r b').isSome=true)(x:AObj):Store.get ((b,x)::r) b'=Store.get r b' :=
 Za (fun e=>by rw [← e,Zm h] at g;cases g) x r
theorem Z6 (b:Nat)(x y:AObj)(r:Store):Store.set ((b,x)::r) b y=(b,y)::r:=by simp [Store.set]
theorem Zk {b' b:Nat}(h:b'≠b)(x y:AObj)(r:Store):Store.set ((b',x)::r) b y=(b',x)::Store.set r b y:=by simp only [Store.set];rw [if_neg h]
theorem Sk {b b':Nat}{r:Store}(h:Zx r b)(g:(Store.get r b').isSome=true)(x y:AObj):Store.set ((b,x)::r) b' y=(b,x)::Store.set r b' y :=
 Zk (fun e=>by rw [← e,Zm h] at g;cases g) x y r
theorem Ey (b':Nat)(x:AObj)(r:Store)(b:Nat):Store.del ((b',x)::r) b=if b'=b then r else (b',x)::Store.del r b:=rfl
def X6 (x:AV)(want:Bool)(A B:Fr→Prop)(fr:Fr)(d:Nat):Prop :=
 match x with
 | .val (.bool x)=>(x=want→A (fr.put d (.val (.bool want))))∧(x=(!want)→B (fr.put d (.val (.bool (!want)))))
 | .val (.tuple ⟨[]⟩)=>B fr
 | _=>False
def gAt (s:Option Nat)(want:Bool)(A B:Fr→Prop)(fr:Fr):Prop :=
 match s with
 | some d=>X6 (fr d) want A B fr d
 | none=>False
theorem HO (ops:Array Oper)(j:Nat)(want:Bool)(fr:Fr)(A B:Fr→Prop):XJ ops (some (j,want)) fr A B=gAt ((ops[j]?).bind (·.dst)) want A B fr:=propext Iff.rfl
theorem Ef (d:Nat)(want:Bool)(A B:Fr→Prop)(fr:Fr):gAt (some d) want A B fr=X6 (fr d) want A B fr d:=propext Iff.rfl
theorem MH (want:Bool)(A B:Fr→Prop)(fr:Fr)(d:Nat):X6 (.val undef) want A B fr d=B fr:=propext Iff.rfl
theorem F7 (A B:Fr→Prop)(fr:Fr)(d:Nat):X6 (.val (.bool true)) true A B fr d=A (fr.put d (.val (.bool true))):=by simp [X6]
theorem Ec (A B:Fr→Prop)(fr:Fr)(d:Nat):X6 (.val (.bool false)) false A B fr d=A (fr.put d (.val (.bool false))):=by simp [X6]
theorem F8 (A B:Fr→Prop)(fr:Fr)(d:Nat):X6 (.val (.bool true)) false A B fr d=B (fr.put d (.val (.bool true))):=by simp [X6]
theorem Eb (A B:Fr→Prop)(fr:Fr)(d:Nat):X6 (.val (.bool false)) true A B fr d=B (fr.put d (.val (.bool false))):=by simp [X6]
theorem Ed (p:Prop)[Decidable p](A B:Fr→Prop)(fr:Fr)(d:Nat):X6 (.val (.bool (decide p))) true A B fr d=((p→A (fr.put d (.val (.bool true))))∧(¬ p→B (fr.put d (.val (.bool false))))):=by simp [X6]
theorem Ee (p:Prop)[Decidable p](A B:Fr→Prop)(fr:Fr)(d:Nat):X6 (.val (.bool (decide p))) false A B fr d=((¬ p→A (fr.put d (.val (.bool false))))∧(p→B (fr.put d (.val (.bool true))))):=by simp [X6]
theorem F9 (p:Prop)[Decidable p](A B:Fr→Prop)(fr:Fr)(d:Nat):X6 (.val (.bool (!decide p))) true A B fr d=((¬ p→A (fr.put d (.val (.bool true))))∧(p→B (fr.put d (.val (.bool false))))):=by simp [X6]
theorem Ea (p:Prop)[Decidable p](A B:Fr→Prop)(fr:Fr)(d:Nat):X6 (.val (.bool (!decide p))) false A B fr d=((p→A (fr.put d (.val (.bool false))))∧(¬ p→B (fr.put d (.val (.bool true))))):=by simp [X6]
def oK (o:Option AV)(K:AV→Prop):Prop :=
 match o with
 | some v=>K v
 | none=>False
theorem Jz (v:AV)(K:AV→Prop):oK (some v) K=K v:=propext Iff.rfl
def lK (P:Program)(T:TypeId)(o:Nat)(x:Option AObj)(K:AV→Prop):Prop :=
 match x with
 | some (.cells cs)=>oK (Vj P T (cs.drop o)) K
 | _=>False
theorem FE (P:Program)(T:TypeId)(o:Nat)(cs:List AV)(K:AV→Prop):lK P T o (some (.cells cs)) K=oK (Vj P T (cs.drop o)) K:=propext Iff.rfl
theorem Dn (P:Program)(T:TypeId)(cs:List AV)(σ:Store)(K:AV→Prop):Wg P T (.ro cs) σ K=oK (Vj P T cs) K:=by unfold Wg oK;rfl
theorem HK (P:Program)(T:TypeId)(b o:Nat)(σ:Store)(K:AV→Prop):Wg P T (.val (.pointer (some ⟨b,o,none⟩))) σ K=lK P T o (σ.get b) K:=by
 simp only [Wg,lK];generalize σ.get b=q;cases q with
 | none=>rfl
 | some x=>cases x<;>first | rfl | (simp only [oK];rfl)
def stK (vs:Option (List AV))(n:Option Nat)(x:Option AObj)(b o:Nat)(σ:Store)(K:Store→Prop):Prop :=
 match vs,n,x with
 | some vs,some n,some (.cells cs)=>vs.length=n∧vs.all AV.one=true∧o+n≤cs.length∧K (σ.set b (.cells (Yu cs o vs)))
 | _,_,_=>False
theorem GA (vs:List AV)(n:Nat)(cs:List AV)(b o:Nat)(σ:Store)(K:Store→Prop):stK (some vs) (some n) (some (.cells cs)) b o σ K=(vs.length=n∧vs.all AV.one=true∧o+n≤cs.length∧K (σ.set b (.cells (Yu cs o vs)))):=propext Iff.rfl
theorem KG (P:Program)(T:TypeId)(b o:Nat)(v:AV)(σ:Store)(K:Store→Prop):SI P T (.val (.pointer (some ⟨b,o,none⟩))) v σ K=stK v.cells (Zh P T) (σ.get b) b o σ K:=by
 unfold SI stK;generalize v.cells=p;generalize Zh P T=q
 cases p<;>cases q<;>try rfl
 simp only;generalize σ.get b=r
 cases r with
 | none=>rfl
 | some x=>cases x<;>rfl
def fKr (cs:List AV)(o:Option Nat)(K:AV→Prop):Prop:=match o with | some off=>K (.ro (cs.drop off)) | none=>False
theorem Ep (cs:List AV)(off:Nat)(K:AV→Prop):fKr cs (some off) K=K (.ro (cs.drop off)):=propext Iff.rfl
def fKp (b o:Nat)(x:Option Nat)(K:AV→Prop):Prop:=match x with | some off=>K (.val (.pointer (some ⟨b,o+off,none⟩))) | none=>False
theorem Er (b o off:Nat)(K:AV→Prop):fKp b o (some off) K=K (.val (.pointer (some ⟨b,o+off,none⟩))):=propext Iff.rfl
theorem HQ (P:Program)(s:TypeId)(cs:List AV)(f:Nat)(K:AV→Prop):WB P s (.ro cs) f K=fKr cs (Zz P s f) K:=by unfold WB fKr;cases Zz P s f<;>rfl
theorem KV (P:Program)(s:TypeId)(b o:Nat)(f:Nat)(K:AV→Prop):WB P s (.val (.pointer (some ⟨b,o,none⟩))) f K=fKp b o (Zz P s f) K:=by unfold WB fKp;cases Zz P s f<;>rfl
def ixL (P:Program)(s:Nat)(es:List (List AV))(n:Int)(e:Option TypeId)(K:AV→Prop):Prop :=
 match e with
 | some e=>Zh P e=some s∧0≤n∧n<es.length∧∀ c,es[n.toNat]?=some c→K (.ro c)
 | none=>False
theorem FS (P:Program)(s:Nat)(es:List (List AV))(n:Int)(e:TypeId)(K:AV→Prop):ixL P s es n (some e) K=(Zh P e=some s∧0≤n∧n<es.length∧∀ c,es[n.toNat]?=some c→K (.ro c)):=propext Iff.rfl
theorem Rs (P:Program)(t:TypeId)(r:Rt)(s:Nat)(es:List (List AV))(k:IntKind)(n:Int)(K:AV→Prop):Z7 P t (.list r s es) (.val (.int k n)) K=ixL P s es n (ZA P t) K:=by
 unfold Z7 ixL;cases ZA P t<;>rfl
def ixS (b o len:Nat)(n:Int)(s:Option Nat)(K:AV→Prop):Prop :=
 match s with
 | some s=>0≤n∧n<len∧K (.val (.pointer (some ⟨b,o+n.toNat * s,none⟩)))
 | none=>False
theorem FQ (b o len:Nat)(n:Int)(s:Nat)(K:AV→Prop):ixS b o len n (some s) K=(0≤n∧n<len∧K (.val (.pointer (some ⟨b,o+n.toNat * s,none⟩)))):=propext Iff.rfl
theorem SM (P:Program)(t:TypeId)(b o len c:Nat)(k:IntKind)(n:Int)(K:AV→Prop):Z7 P t (.val (.slice (some ⟨b,o,none⟩) len c)) (.val (.int k n)) K=ixS b o len n ((ZA P t).bind (Zh P)) K:=by
 unfold Z7 ixS;cases ZA P t with
 | none=>rfl
 | some e=>simp only [Option.bind_some];cases Zh P e<;>rfl
def ixR (cs:List AV)(len:Nat)(n:Int)(s:Option Nat)(K:AV→Prop):Prop :=
 match s with
 | some s=>0≤n∧n<len∧K (.ro (cs.drop (n.toNat * s)))
 | none=>False
theorem FR (cs:List AV)(len:Nat)(n:Int)(s:Nat)(K:AV→Prop):ixR cs len n (some s) K=(0≤n∧n<len∧K (.ro (cs.drop (n.toNat * s)))):=propext Iff.rfl
theorem KT (P:Program)(t:TypeId)(s:ByteArray)(k:IntKind)(n:Int)(K:AV→Prop)(hu:P.underlying t=some .string):Vp P t (.val (.string s)) (.val (.int k n)) K=(0≤n∧n<s.size∧K (.val (.int .u8 (bAt s n.toNat)))):=by
 unfold Vp;rw [hu]
def fvK (P:Program)(cs:List AV)(x:Option (Nat×TypeId))(K:AV→Prop):Prop:=match x with | some (off,T)=>oK (Vj P T (cs.drop off)) K | none=>False
theorem Eg (P:Program)(cs:List AV)(off T:Nat)(K:AV→Prop):fvK P cs (some (off,T)) K=oK (Vj P T (cs.drop off)) K:=propext Iff.rfl
theorem La (P:Program)(s:TypeId)(cs:List AV)(f:Nat)(K:AV→Prop):Wt P s (.agg cs) f K=fvK P cs (fTy P s f) K:=by
 unfold Wt fvK;cases fTy P s f with
 | none=>rfl
 | some x=>cases x;rfl
theorem ZK (P:Program)(op:BinOp)(T:TypeId)(x y v:AV)(yc:Operand)(K:AV→Prop)(h:Ym P op T x y (opC yc)=some v):Yk P op T x y yc K=K v:=by
 unfold Yk;rw [h]
theorem ap (P:Program)(T:TypeId)(k:IntKind)(a b:Int)(yc:Operand)(K:AV→Prop):Yk P .add T (.val (.int k a)) (.val (.int k b)) yc K=K (.val (.int k (k.wrap (a+b)))):=ZK _ _ _ _ _ _ _ _ (by simp [Ym])
theorem AU (P:Program)(T:TypeId)(k:IntKind)(a b:Int)(yc:Operand)(K:AV→Prop):Yk P .sub T (.val (.int k a)) (.val (.int k b)) yc K=K (.val (.int k (k.wrap (a-b)))):=ZK _ _ _ _ _ _ _ _ (by simp [Ym])
theorem A8 (P:Program)(T:TypeId)(k:IntKind)(a b:Int)(yc:Operand)(K:AV→Prop):Yk P .mul T (.val (.int k a)) (.val (.int k b)) yc K=K (.val (.int k (k.wrap (a * b)))):=ZK _ _ _ _ _ _ _ _ (by simp [Ym])
theorem A9 (P:Program)(T:TypeId)(k:IntKind)(a b:Int)(yc:Operand)(K:AV→Prop):Yk P .lss T (.val (.int k a)) (.val (.int k b)) yc K=K (.val (.bool (decide (a<b)))):=ZK _ _ _ _ _ _ _ _ (by simp [Ym])
theorem aa (P:Program)(T:TypeId)(k:IntKind)(a b:Int)(yc:Operand)(K:AV→Prop):Yk P .leq T (.val (.int k a)) (.val (.int k b)) yc K=K (.val (.bool (decide (a≤b)))):=ZK _ _ _ _ _ _ _ _ (by simp [Ym])
theorem ac (P:Program)(T:TypeId)(k:IntKind)(a b:Int)(yc:Operand)(K:AV→Prop):Yk P .gtr T (.val (.int k a)) (.val (.int k b)) yc K=K (.val (.bool (decide (b<a)))):=ZK _ _ _ _ _ _ _ _ (by simp [Ym])
theorem ah (P:Program)(T:TypeId)(k:IntKind)(a b:Int)(yc:Operand)(K:AV→Prop):Yk P .geq T (.val (.int k a)) (.val (.int k b)) yc K=K (.val (.bool (decide (b≤a)))):=ZK _ _ _ _ _ _ _ _ (by simp [Ym])
theorem aj (P:Program)(T:TypeId)(k:IntKind)(a b:Int)(yc:Operand)(K:AV→Prop):Yk P .eql T (.val (.int k a)) (.val (.int k b)) yc K=K (.val (.bool (decide (a=b)))):=ZK _ _ _ _ _ _ _ _ (by simp [Ym])
theorem A7 (P:Program)(T:TypeId)(k:IntKind)(a b:Int)(yc:Operand)(K:AV→Prop):Yk P .neq T (.val (.int k a)) (.val (.int k b)) yc K=K (.val (.bool (!decide (a=b)))):=ZK _ _ _ _ _ _ _ _ (by simp [Ym])
theorem A6 (P:Program)(T:TypeId)(k:IntKind)(a b:Int)(yc:Operand)(K:AV→Prop)(h:b≠0):Yk P .quo T (.val (.int k a)) (.val (.int k b)) yc K=K (.val (.int k (k.wrap (a.tdiv b)))):=ZK _ _ _ _ _ _ _ _ (by simp [Ym,opC,h])
theorem A5 (P:Program)(T:TypeId)(k:IntKind)(a b:Int)(yc:Operand)(K:AV→Prop)(h:b≠0):Yk P .rem T (.val (.int k a)) (.val (.int k b)) yc K=K (.val (.int k (a.tmod b))):=ZK _ _ _ _ _ _ _ _ (by simp [Ym,opC,h])
theorem AZ (P:Program)(T:TypeId)(k k':IntKind)(a b:Int)(yc:Operand)(K:AV→Prop)(h:0≤b):Yk P .shl T (.val (.int k a)) (.val (.int k' b)) yc K=K (.val (.int k (k.wrap (a * 2 ^ min b.toNat k.bits)))):=ZK _ _ _ _ _ _ _ _ (by simp [Ym,opC,h])
theorem AY (P:Program)(T:TypeId)(k k':IntKind)(a b:Int)(yc:Operand)(K:AV→Prop)(h:0≤b):Yk P .shr T (.val (.int k a)) (.val (.int k' b)) yc K=K (.val (.int k (a.fdiv (2 ^ min b.toNat k.bits)))):=ZK _ _ _ _ _ _ _ _ (by simp [Ym,opC,h])
theorem AS (P:Program)(T:TypeId)(k:IntKind)(a b:Int)(yc:Operand)(K:AV→Prop):Yk P .xor T (.val (.int k a)) (.val (.int k b)) yc K=K (.val (.int k (k.wrap (BitVec.ofInt k.bits a ^^^ BitVec.ofInt k.bits b).toNat))):=ZK _ _ _ _ _ _ _ _ (by simp [Ym])
theorem an (P:Program)(T:TypeId)(k:IntKind)(a b:Int)(yc:Operand)(K:AV→Prop):Yk P .and T (.val (.int k a)) (.val (.int k b)) yc K=K (.val (.int k (k.wrap (BitVec.ofInt k.bits a &&& BitVec.ofInt k.bits b).toNat))):=ZK _ _ _ _ _ _ _ _ (by simp [Ym])
theorem A4 (P:Program)(T:TypeId)(a b:ByteArray)(yc:Operand)(K:AV→Prop):Yk P .eql T (.val (.string a)) (.val (.string b)) yc K=K (.val (.bool (decide (a=b)))):=ZK _ _ _ _ _ _ _ _ (by simp [Ym])
theorem AW (P:Program)(T:TypeId)(a b:ByteArray)(yc:Operand)(K:AV→Prop):Yk P .neq T (.val (.string a)) (.val (.string b)) yc K=K (.val (.bool (!decide (a=b)))):=ZK _ _ _ _ _ _ _ _ (by simp [Ym])
theorem AX (P:Program)(T:TypeId)(a b:ByteArray)(yc:Operand)(K:AV→Prop):Yk P .lss T (.val (.string a)) (.val (.string b)) yc K=K (.val (.bool (decide (Op.bytesLess a.data.toList b.data.toList=true)))):=ZK _ _ _ _ _ _ _ _ (by simp [Ym])
theorem A0 (P:Program)(T:TypeId)(a b:ByteArray)(yc:Operand)(K:AV→Prop):Yk P .gtr T (.val (.string a)) (.val (.string b)) yc K=K (.val (.bool (!decide (Op.bytesLess a.data.toList b.data.toList=true∨a=b)))):=ZK _ _ _ _ _ _ _ _ (by simp [Ym])
theorem al (P:Program)(T:TypeId)(a b:Bool)(yc:Operand)(K:AV→Prop)(h:P.underlying T=some .bool):Yk P .eql T (.val (.bool a)) (.val (.bool b)) yc K=K (.val (.bool (decide (a=b)))):=ZK _ _ _ _ _ _ _ _ (by simp [Ym,opC,h])
theorem ak (P:Program)(T:TypeId)(a b:Bool)(yc:Operand)(K:AV→Prop)(h:P.underlying T=some .bool):Yk P .neq T (.val (.bool a)) (.val (.bool b)) yc K=K (.val (.bool (!decide (a=b)))):=ZK _ _ _ _ _ _ _ _ (by simp [Ym,opC,h])
theorem Dx (P:Program)(T:TypeId)(c:Value)(K:AV→Prop)(h:ZJ (P.underlying T)=true):Yk P .neq T (.val .nilIface) (.val .nilIface) (.const c) K=K (.val (.bool false)):=ZK _ _ _ _ _ _ _ _ (by simp [Ym,opC,h])
theorem Dy (P:Program)(T:TypeId)(c:Value)(K:AV→Prop)(h:ZJ (P.underlying T)=true):Yk P .eql T (.val .nilIface) (.val .nilIface) (.const c) K=K (.val (.bool true)):=ZK _ _ _ _ _ _ _ _ (by simp [Ym,opC,h])
theorem Be (P:Program)(T t:TypeId)(v:Value)(yc:Operand)(K:AV→Prop)(h:ZJ (P.underlying T)=true):Yk P .neq T (.val (.iface t v)) (.val .nilIface) yc K=K (.val (.bool true)):=ZK _ _ _ _ _ _ _ _ (by simp [Ym,opC,h])
theorem Bf (P:Program)(T t:TypeId)(v:Value)(yc:Operand)(K:AV→Prop)(h:ZJ (P.underlying T)=true):Yk P .eql T (.val (.iface t v)) (.val .nilIface) yc K=K (.val (.bool false)):=ZK _ _ _ _ _ _ _ _ (by simp [Ym,opC,h])
def eqK (o:Option Bool)(F:Prop)(K:AV→Prop):Prop:=match o with | some b=>K (.val (.bool b)) | none=>F
theorem Eu (b:Bool)(F:Prop)(K:AV→Prop):eqK (some b) F K=K (.val (.bool b)):=propext Iff.rfl
def bE:Option Bool→Option Bool→Option Bool
 | some x,some y=>some (x&&y)
 | _,_=>none
theorem HF (x y:Bool):bE (some x) (some y)=some (x&&y):=rfl
theorem KU (l:List Nat)(xs ys:List AV):Sa (some l) xs ys=W7 l xs ys:=rfl
theorem Dr:W7 [] [] []=some true:=rfl
theorem HP (k:Nat)(l:List Nat)(a b:AV)(r s:List AV):W7 (k::l) (a::r) (b::s)=bE (Vo k a b) (W7 l r s):=by
 simp only [W7]
 cases Vo k a b<;>cases W7 l r s<;>rfl
theorem KD (k:IntKind)(x y:Int):Vo 0 (.val (.int k x)) (.val (.int k y))=some (decide (x=y)):=by simp [Vo]
theorem MU (x y:Bool):Vo 1 (.val (.bool x)) (.val (.bool y))=some (decide (x=y)):=rfl
theorem PB (x y:ByteArray):Vo 2 (.val (.string x)) (.val (.string y))=some (decide (x=y)):=rfl
def nB:Option Bool→Option Bool
 | some b=>some (!b)
 | none=>none
theorem Ca (b:Bool):nB (some b)=some (!b):=rfl
def abF (P:Program)(op:BinOp)(T:TypeId)(xs ys:List AV)(yc:Operand)(K:AV→Prop):Prop:=Yk P op T (.agg xs) (.agg ys) yc K
theorem ao (P:Program)(T:TypeId)(xs ys:List AV)(yc:Operand)(K:AV→Prop):Yk P .eql T (.agg xs) (.agg ys) yc K=eqK (Sa (eqT P T) xs ys) (abF P .eql T xs ys yc K) K:=by
 cases h:Sa (eqT P T) xs ys with
 | none=>rfl
 | some b=>unfold Yk;simp only [Ym,h];rfl
theorem am (P:Program)(T:TypeId)(xs ys:List AV)(yc:Operand)(K:AV→Prop):Yk P .neq T (.agg xs) (.agg ys) yc K=eqK (nB (Sa (eqT P T) xs ys)) (abF P .neq T xs ys yc K) K:=by
 cases h:Sa (eqT P T) xs ys with
 | none=>rfl
 | some b=>unfold Yk;simp only [Ym,h];rfl
attribute [go_sem] Eu HF KU Dr HP KD MU PB Ca ao am
theorem CO (b:Bool)(K:AV→Prop):aun .not (.val (.bool b)) K=K (.val (.bool (!b))):=propext Iff.rfl
theorem CP (k:IntKind)(n:Int)(K:AV→Prop):aun .neg (.val (.int k n)) K=K (.val (.int k (k.wrap (0-n)))):=propext Iff.rfl
def ifK (T:TypeId)(o:Option Value)(K:AV→Prop):Prop:=match o with | some v=>K (.val (.iface T v)) | none=>False
theorem FV (T:TypeId)(v:Value)(K:AV→Prop):ifK T (some v) K=K (.val (.iface T v)):=propext Iff.rfl
theorem HN (P:Program)(T:TypeId)(x:AV)(K:AV→Prop):V1 P T x K=((P.underlying T).isSome=true∧ZJ (P.underlying T)=false∧ifK T x.toVal K):=by
 unfold V1 ifK;cases x.toVal<;>rfl
theorem Li (P:Program)(T:TypeId)(v:Value)(K:AV→Prop):Sc P (.val (.iface T v)) T true K=((P.underlying T).isSome=true∧ZJ (P.underlying T)=false∧K (.tup [cW v,.val (.bool true)])):=by
 unfold Sc;simp
theorem NH (vs:List AV)(i:Nat)(K:AV→Prop):XO (.tup vs) i K=oK (vs[i]?) K:=by unfold XO oK;rfl
def bdK (P:Program)(t:TypeId)(z:Option Value)(pl:Option (List (Nat×Nat)))(ps:List (Nat×AV))(K:AV→Prop):Prop :=
 match z,pl with
 | some z,some pl=>oK ((V9 (fun i=>pl[i]?) (YL z) ps).map .agg) K
 | _,_=>False
theorem ER (P:Program)(t:TypeId)(z:Value)(pl:List (Nat×Nat))(ps:List (Nat×AV))(K:AV→Prop):bdK P t (some z) (some pl) ps K=oK ((V9 (fun i=>pl[i]?) (YL z) ps).map .agg) K:=propext Iff.rfl
theorem HU (P:Program)(t:TypeId)(ps:List (Nat×AV))(K:AV→Prop):Vq P t ps K=bdK P t (Zl P t) (Yx P t) ps K:=by
 unfold Vq bdK oK
 cases Zl P t with
 | none=>rfl
 | some z=>cases Yx P t with
   | none=>rfl
   | some pl=>simp only;cases V9 (fun i=>pl[i]?) (YL z) ps<;>rfl
def bsK (es:Option (List (List AV)))(s:Nat)(K:AV→Prop):Prop :=
 match es with
 | some es=>es.all (fun e=>e.all AV.one)=true∧K (.list .full s es)
 | none=>False
theorem EP (es:List (List AV))(s:Nat)(K:AV→Prop):bsK (some es) s K=(es.all (fun e=>e.all AV.one)=true∧K (.list .full s es)):=propext Iff.rfl
def cuL (P:Program)(r:Rt)(s:Nat)(es:List (List AV))(e:Nat)(hi:Option AV)(l h:Option Int)(K:AV→Prop):Prop :=
 match l,h with
 | some l,some h=>Zh P e=some s∧0≤l∧l≤h∧h≤es.length∧K (.list (Vh hi r) s ((es.drop l.toNat).take (h.toNat-l.toNat)))
 | _,_=>False
theorem EB (P:Program)(r:Rt)(s:Nat)(es:List (List AV))(e:Nat)(hi:Option AV)(l h:Int)(K:AV→Prop):cuL P r s es e hi (some l) (some h) K=(Zh P e=some s∧0≤l∧l≤h∧h≤es.length∧K (.list (Vh hi r) s ((es.drop l.toNat).take (h.toNat-l.toNat)))):=propext Iff.rfl
theorem Kn (d:Int):Wf none d=some d:=rfl
theorem Km (k:IntKind)(n d:Int):Wf (some (.val (.int k n))) d=some n:=rfl
theorem C2 (k k':IntKind)(x y:Int)(K:AV→Prop):amm true [.val (.int k x),.val (.int k' y)] K=K (.val (.int k (max x y))):=propext Iff.rfl
theorem C1 (k k':IntKind)(x y:Int)(K:AV→Prop):amm false [.val (.int k x),.val (.int k' y)] K=K (.val (.int k (min x y))):=propext Iff.rfl
theorem Dl (a:Addr)(K:AV→Prop):Q3 (.val (.pointer (some a))) K=K (.val (.pointer (some a))):=propext Iff.rfl
theorem HE (f:Nat)(a b:Array Value)(K:AV→Prop):Q3 (.val (.func (.func f) a b)) K=K (.val (.func (.func f) a b)):=propext Iff.rfl
theorem C0 (cs:List AV)(K:AV→Prop):Q3 (.ro cs) K=K (.ro cs):=propext Iff.rfl
theorem K1 (P:Program)(sT xT:Nat)(s x:AV)(σ:Store)(K:ZO→Store→Prop):Xg P .append ⟨[sT,xT]⟩ [s,x] σ K=UY P sT xT s x σ (kRs K):=propext Iff.rfl
theorem Bb (P:Program)(t:Nat)(x:AV)(σ:Store)(K:ZO→Store→Prop):Xg P .len ⟨[t]⟩ [x] σ K=Ue P t x σ (Y2 K σ):=propext Iff.rfl
theorem Ba (P:Program)(ts:Array TypeId)(xs:List AV)(σ:Store)(K:ZO→Store→Prop):Xg P .max ts xs σ K=amm true xs (Y2 K σ):=by
 unfold Xg;split<;>simp_all
theorem C9 (P:Program)(ts:Array TypeId)(xs:List AV)(σ:Store)(K:ZO→Store→Prop):Xg P .min ts xs σ K=amm false xs (Y2 K σ):=by
 unfold Xg;split<;>simp_all
section
variable (P:Program) (mu:Bool) (ev:Operand→AV) (σ:Store) (K:ZO→Store→Prop)
def pkK (c a b:AV)(K:AV→Prop):Prop:=match c with | .val (.bool x)=>K (if x then a else b) | _=>False
theorem G9 (a b:AV)(K:AV→Prop):pkK (.val (.bool true)) a b K=K a:=propext Iff.rfl
theorem It (a b:AV)(K:AV→Prop):pkK (.val (.bool false)) a b K=K b:=propext Iff.rfl
theorem DY (p:Prop)[Decidable p](a b:AV)(K:AV→Prop):pkK (.val (.bool (decide p))) a b K=((p→K a)∧(¬ p→K b)):=by
 unfold pkK;by_cases h:p<;>simp [h]
def alK (z:Option Value)(σ:Store)(K:ZO→Store→Prop):Prop:=match z with | some z=>Pd true (YL z) σ K | none=>False
theorem Dp (z:Value):alK (some z) σ K=Pd true (YL z) σ K:=propext Iff.rfl
def bxK (cs:Option (List AV))(mu:Bool)(σ:Store)(K:ZO→Store→Prop):Prop:=match cs with | some cs=>Pd mu cs σ K | none=>False
theorem EM (cs:List AV):bxK (some cs) mu σ K=Pd mu cs σ K:=propext Iff.rfl
def mfK (fn:Fn)(f c:Option (List Value))(K:AV→Prop):Prop:=match f,c with | some f,some c=>K (.val (.func fn f.toArray c.toArray)) | _,_=>False
theorem Fm (fn:Fn)(f c:List Value)(K:AV→Prop):mfK fn (some f) (some c) K=K (.val (.func fn ⟨f⟩ ⟨c⟩)):=propext Iff.rfl
def pnK (x:AV)(σ:Store)(K:ZO→Store→Prop):Prop:=match x with | .val (.iface t v)=>K (.pan (.iface t v)) σ | _=>False
theorem Is (t:TypeId)(v:Value):pnK (.val (.iface t v)) σ K=K (.pan (.iface t v)) σ:=propext Iff.rfl
theorem CT (x:Operand):ZB P mu ev σ K (.move x)=K (.ret (ev x)) σ:=propext Iff.rfl
theorem HC (x:Operand):ZB P mu ev σ K (.assign x)=K (.ret (ev x)) σ:=propext Iff.rfl
theorem CR (c a b:Operand):ZB P mu ev σ K (.pick c a b)=pkK (ev c) (ev a) (ev b) (Y2 K σ):=propext Iff.rfl
theorem E9 (T:TypeId):ZB P mu ev σ K (.alloc T)=alK (Zl P T) σ K:=propext Iff.rfl
theorem AO (T:TypeId)(x:Operand):ZB P mu ev σ K (.box T x)=bxK (ev x).cells mu σ K:=propext Iff.rfl
theorem E7 (t:TypeId)(ps:List (Nat×Operand)):ZB P mu ev σ K (.build t ⟨ps⟩)=Vq P t (ps.map fun p=>(p.1,ev p.2)) (Y2 K σ):=propext Iff.rfl
theorem PD (t:TypeId)(n:Nat)(ps:List (Nat×Operand)):ZB P mu ev σ K (.buildSlice t n ⟨ps⟩)=YU P t n (ps.map fun p=>(p.1,ev p.2)) (Y2 K σ):=propext Iff.rfl
theorem CU (T:TypeId)(x:Operand):ZB P mu ev σ K (.load T x)=Wg P T (ev x) σ (Y2 K σ):=propext Iff.rfl
theorem E0 (T:TypeId)(x y:Operand):ZB P mu ev σ K (.store T x y)=SI P T (ev x) (ev y) σ (Ke K):=propext Iff.rfl
theorem MZ (x:Operand):ZB P mu ev σ K (.nilCheck x)=Q3 (ev x) (Y2 K σ):=propext Iff.rfl
theorem E8 (op:BinOp)(T T':TypeId)(x y:Operand):ZB P mu ev σ K (.binOp op T x y T')=Yk P op T (ev x) (ev y) y (Y2 K σ):=propext Iff.rfl
theorem CQ (op:UnOp)(T:TypeId)(x:Operand):ZB P mu ev σ K (.unOp op T x)=aun op (ev x) (Y2 K σ):=propext Iff.rfl
theorem KJ (s d:TypeId)(x:Operand):ZB P mu ev σ K (.convert s d x)=Tf P s d (ev x) (Y2 K σ):=propext Iff.rfl
theorem SJ (T:TypeId)(x:Operand):ZB P mu ev σ K (.makeInterface T x)=V1 P T (ev x) (Y2 K σ):=propext Iff.rfl
theorem M0 (fn:Fn)(f c:List Operand):ZB P mu ev σ K (.makeFunc fn ⟨f⟩ ⟨c⟩)=mfK fn (cV (f.map ev)) (cV (c.map ev)) (Y2 K σ):=propext Iff.rfl
theorem Ny (t:TypeId)(n c:Operand):ZB P mu ev σ K (.makeSlice t n c)=Wn P mu t (ev n) (ev c) σ K:=propext Iff.rfl
theorem E1 (t:TypeId)(x:Operand)(lo hi mx:Option Operand):ZB P mu ev σ K (.slice t x lo hi mx)=Ru P t (ev x) (lo.map ev) (hi.map ev) (mx.map ev) (Y2 K σ):=propext Iff.rfl
theorem NA (s:TypeId)(x:Operand)(f:Nat):ZB P mu ev σ K (.fieldAddr s x f)=WB P s (ev x) f (Y2 K σ):=propext Iff.rfl
theorem E5 (s:TypeId)(x:Operand)(f:Nat):ZB P mu ev σ K (.field s x f)=Wt P s (ev x) f (Y2 K σ):=propext Iff.rfl
theorem Nz (t:TypeId)(x i:Operand):ZB P mu ev σ K (.indexAddr t x i)=Z7 P t (ev x) (ev i) (Y2 K σ):=propext Iff.rfl
theorem E4 (t:TypeId)(x i:Operand):ZB P mu ev σ K (.index t x i)=Vp P t (ev x) (ev i) (Y2 K σ):=propext Iff.rfl
theorem KI (x:Operand)(i:Nat):ZB P mu ev σ K (.extract x i)=XO (ev x) i (Y2 K σ):=propext Iff.rfl
theorem PC (x:Operand)(t T:TypeId)(ok:Bool):ZB P mu ev σ K (.typeAssert x t T ok)=Sc P (ev x) T ok (Y2 K σ):=propext Iff.rfl
theorem E3 (x:Operand):ZB P mu ev σ K (.panic x)=pnK (ev x) σ K:=propext Iff.rfl
theorem CW (f:Operand)(args:List Operand)(ts:Array TypeId):ZB P mu ev σ K (.call ⟨.value f,⟨args⟩,ts⟩)=ZX P (ev f) (args.map ev) σ K:=propext Iff.rfl
theorem KK (b:Builtin)(args:List Operand)(ts:Array TypeId):ZB P false ev σ K (.call ⟨.builtin b,⟨args⟩,ts⟩)=Xg P b ts (args.map ev) σ K:=propext Iff.rfl
theorem CX (s x:Operand)(sT xT:TypeId):ZB P true ev σ K (.call ⟨.builtin .append,⟨[s,x]⟩,⟨[sT,xT]⟩⟩)=Ua P sT xT (ev s) (ev x) σ (kRs K):=propext Iff.rfl
theorem KH (t:TypeId):ZB P mu ev σ K (.makeMap t none)=T8 σ K:=propext Iff.rfl
theorem Nw (t:TypeId)(m k v:Operand):ZB P mu ev σ K (.mapUpdate t m k v)=Vk P t (ev m) (ev k) (ev v) σ (Ke K):=propext Iff.rfl
theorem HB (t:TypeId)(m k v:Operand):ZB P mu ev σ K (.insert t m k v)=Vk P t (ev m) (ev k) (ev v) σ (Ke K):=propext Iff.rfl
theorem HA (t:TypeId)(m k:Operand)(ok:Bool):ZB P mu ev σ K (.lookup t m k ok)=M7 P t (ev m) (ev k) ok σ (Y2 K σ):=propext Iff.rfl
theorem E2 (t:TypeId)(m:Operand):ZB P mu ev σ K (.range t m)=KL P t (ev m) σ K:=propext Iff.rfl
theorem CS (it:Operand):ZB P mu ev σ K (.next it false)=Dm (ev it) σ K:=propext Iff.rfl
theorem E6 (it:Operand):ZB P mu ev σ K (.entry it)=KW (ev it) σ (Y2 K σ):=propext Iff.rfl
theorem ND (σ:Store)(K:ZO→Store→Prop):T8 σ K=∀ b,Zx σ b→K (.ret (.val (.map (some b)))) ((b,.map [] 0)::σ):=propext Iff.rfl
end
theorem Y5 (P:Program)(g:FuncId)(l:List Value)(args:List AV)(σ:Store)(K:ZO→Store→Prop):ZX P (.val (.func (.func g) ⟨[]⟩ ⟨l⟩)) args σ K=Zj P g (args++l.map .val) σ K:=by
 apply propext
 constructor
 ·rintro ⟨g',f,c,e,h⟩
  injection e with e
  injection e with e1 e2 e3
  injection e1 with e1
  subst e1;subst e2;subst e3
  simpa using h
 ·intro h;exact ⟨g,⟨[]⟩,⟨l⟩,rfl,by simpa using h⟩
def ixA (P:Program)(x:AV)(n:Int)(d:Option TypeDesc)(K:AV→Prop):Prop :=
 match d,x with
 | some (.array len e),.val (.pointer (some ⟨b,o,none⟩))=>ixS b o len n (Zh P e) K
 | some (.array len e),.ro cs=>ixR cs len n (Zh P e) K
 | _,_=>False
theorem Ct (P:Program)(b o:Nat)(n:Int)(len e:Nat)(K:AV→Prop):ixA P (.val (.pointer (some ⟨b,o,none⟩))) n (some (.array len e)) K=ixS b o len n (Zh P e) K:=propext Iff.rfl
theorem Aw (P:Program)(cs:List AV)(n:Int)(len e:Nat)(K:AV→Prop):ixA P (.ro cs) n (some (.array len e)) K=ixR cs len n (Zh P e) K:=propext Iff.rfl
theorem PF (P:Program)(t:TypeId)(b o:Nat)(k:IntKind)(n:Int)(K:AV→Prop)(h:ZA P t=none):Z7 P t (.val (.pointer (some ⟨b,o,none⟩))) (.val (.int k n)) K=ixA P (.val (.pointer (some ⟨b,o,none⟩))) n (P.underlying t) K:=by
 unfold Z7 ixA ixS;rw [h];simp only;generalize P.underlying t=d
 cases d with
 | none=>rfl
 | some d=>cases d<;>rfl
theorem PE (P:Program)(t:TypeId)(cs:List AV)(k:IntKind)(n:Int)(K:AV→Prop)(h:ZA P t=none):Z7 P t (.ro cs) (.val (.int k n)) K=ixA P (.ro cs) n (P.underlying t) K:=by
 unfold Z7 ixA ixR;rw [h];simp only;generalize P.underlying t=d
 cases d with
 | none=>rfl
 | some d=>cases d<;>rfl
def nlK (e:Option TypeId)(w:Bool)(es:List (List AV))(K:AV→Prop):Prop :=
 match e with
 | some _=>∀ b:Bool,(b=w→es=[])→K (.val (.bool b))
 | none=>False
theorem Fl (e:TypeId)(w:Bool)(es:List (List AV))(K:AV→Prop):nlK (some e) w es K=∀ b:Bool,(b=w→es=[])→K (.val (.bool b)):=propext Iff.rfl
theorem K4 (P:Program)(T:TypeId)(r:Rt)(s:Nat)(es:List (List AV))(y:AV)(n c:Nat)(K:AV→Prop):Yk P .eql T (.list r s es) y (.const (.slice none n c)) K=nlK (ZA P T) true es K:=by
 unfold Yk nlK;cases y<;>simp only [Ym]<;>cases ZA P T<;>rfl
theorem K3 (P:Program)(T:TypeId)(r:Rt)(s:Nat)(es:List (List AV))(y:AV)(n c:Nat)(K:AV→Prop):Yk P .neq T (.list r s es) y (.const (.slice none n c)) K=nlK (ZA P T) false es K:=by
 unfold Yk nlK;cases y<;>simp only [Ym]<;>cases ZA P T<;>rfl
def acK (s d:Option TypeDesc)(n:Int)(K:AV→Prop):Prop :=
 match s,d with
 | some _,some (.int k)=>K (.val (.int k (k.wrap n)))
 | _,_=>False
theorem C8 (q:TypeDesc)(k:IntKind)(n:Int)(K:AV→Prop):acK (some q) (some (.int k)) n K=K (.val (.int k (k.wrap n))):=propext Iff.rfl
theorem HS (P:Program)(s d:TypeId)(j:IntKind)(n:Int)(K:AV→Prop):Tf P s d (.val (.int j n)) K=acK (P.underlying s) (P.underlying d) n K:=by
 unfold Tf acK;generalize P.underlying s=a;generalize P.underlying d=b
 cases a<;>cases b<;>try rfl
 rename_i d;cases d<;>rfl
def bsZ (s:Option Nat)(z:Option Value)(len:Nat)(ps:List (Nat×AV))(K:AV→Prop):Prop :=
 match s,z with
 | some s,some z=>0<s∧ps.map (·.1)=List.range len∧len * s≤16777216∧z.cells.size=s∧bsK (XC s (ps.map (·.2))) s K
 | _,_=>False
theorem EO (s:Nat)(z:Value)(len:Nat)(ps:List (Nat×AV))(K:AV→Prop):bsZ (some s) (some z) len ps K=(0<s∧ps.map (·.1)=List.range len∧len * s≤16777216∧z.cells.size=s∧bsK (XC s (ps.map (·.2))) s K):=propext Iff.rfl
def bsE (P:Program)(e:Option TypeId)(len:Nat)(ps:List (Nat×AV))(K:AV→Prop):Prop :=
 match e with
 | some e=>bsZ (Zh P e) (Zl P e) len ps K
 | none=>False
theorem EQ (P:Program)(e:TypeId)(len:Nat)(ps:List (Nat×AV))(K:AV→Prop):bsE P (some e) len ps K=bsZ (Zh P e) (Zl P e) len ps K:=propext Iff.rfl
theorem Pb (P:Program)(t len:Nat)(ps:List (Nat×AV))(K:AV→Prop):YU P t len ps K=bsE P (ZA P t) len ps K:=by
 unfold YU bsE bsZ bsK;cases ZA P t with
 | none=>rfl
 | some e =>
   simp only;generalize Zh P e=a;generalize Zl P e=b
   cases a<;>cases b<;>try rfl
def apZ (sz:Option Nat)(z:Option Value)(by_:Option Nat)(s x:AV)(σ:Store)(K:AV→Store→Prop):Prop :=
 match sz,z,by_,s,x with
 | some sz,some z,some by_,.list r s1 es,.list _ s2 ys=>z.cells.size=sz∧by_≤512∧es.length+ys.length≤lim∧(s1=sz∨es=[])∧(s2=sz∨ys=[]) ∧
  match r with
  | .full=>(ys=[]→K (.list .full s1 es) σ)∧(ys≠[]→∀ b e c,Zx σ b→K (.list (.tip b e c) sz (es++ys)) ((b,.tail e c)::σ))
  | .tip b0 e0 c0=>σ.get b0=some (.tail e0 c0)∧s1=sz∧∀ b e c,Zx (σ.del b0) b→K (.list (.tip b e c) sz (es++ys)) ((b,.tail e c)::σ.del b0)
  | .none=>ys=[]∧K (.list .none s1 es) σ
 | _,_,_,_,_=>False
def apE (P:Program)(e q:Option TypeId)(s x:AV)(σ:Store)(K:AV→Store→Prop):Prop :=
 match e,q with
 | some e,some _=>apZ (Zh P e) (Zl P e) (ZQ P e) s x σ K
 | _,_=>False
theorem Df (P:Program)(e q:TypeId)(s x:AV)(σ:Store)(K:AV→Store→Prop):apE P (some e) (some q) s x σ K=apZ (Zh P e) (Zl P e) (ZQ P e) s x σ K:=propext Iff.rfl
theorem De (sz:Nat)(z:Value)(by_ s1 s2:Nat)(es ys:List (List AV))(r2:Rt)(σ:Store)(K:AV→Store→Prop):apZ (some sz) (some z) (some by_) (.list .full s1 es) (.list r2 s2 ys) σ K =
 (z.cells.size=sz∧by_≤512∧es.length+ys.length≤lim∧(s1=sz∨es=[])∧(s2=sz∨ys=[])∧(ys=[]→K (.list .full s1 es) σ)∧(ys≠[]→∀ b e c,Zx σ b→K (.list (.tip b e c) sz (es++ys)) ((b,.tail e c)::σ))):=propext Iff.rfl
theorem CZ (sz:Nat)(z:Value)(by_ s1 s2 b0 e0 c0:Nat)(es ys:List (List AV))(r2:Rt)(σ:Store)(K:AV→Store→Prop):apZ (some sz) (some z) (some by_) (.list (.tip b0 e0 c0) s1 es) (.list r2 s2 ys) σ K =
 (z.cells.size=sz∧by_≤512∧es.length+ys.length≤lim∧(s1=sz∨es=[])∧(s2=sz∨ys=[])∧σ.get b0=some (.tail e0 c0)∧s1=sz∧∀ b e c,Zx (σ.del b0) b→K (.list (.tip b e c) sz (es++ys)) ((b,.tail e c)::σ.del b0)):=propext Iff.rfl
theorem K5 (P:Program)(sT xT:TypeId)(s x:AV)(σ:Store)(K:AV→Store→Prop):UY P sT xT s x σ K=apE P (ZA P sT) (ZA P xT) s x σ K:=by
 unfold UY apE
 generalize ZA P sT=a;generalize ZA P xT=q
 cases a with
 | none=>cases q<;>cases s<;>cases x<;>rfl
 | some e =>
   cases q with
   | none =>
     cases s<;>cases x<;>try rfl
     simp only;generalize Zh P e=i;generalize Zl P e=j;generalize ZQ P e=k
     cases i<;>cases j<;>cases k<;>try rfl
     simp
   | some q =>
     cases s<;>cases x<;>simp only<;>generalize Zh P e=i<;>generalize Zl P e=j<;>generalize ZQ P e=k<;>cases i<;>cases j<;>cases k<;>try rfl
     rename_i r s1 es r2 s2 ys sz z by_
     simp only [Option.isSome_some,true_and,apZ]
     cases r<;>rfl
def lnL (d:Option TypeDesc)(m:Nat)(K:AV→Prop):Prop :=
 match d with
 | some (.slice _)=>K (.val (.int .i64 m))
 | some (.array n _)=>K (.val (.int .i64 n))
 | _=>False
theorem IF (e m:Nat)(K:AV→Prop):lnL (some (.slice e)) m K=K (.val (.int .i64 m)):=propext Iff.rfl
theorem HM (P:Program)(t:Nat)(r:Rt)(s:Nat)(es:List (List AV))(σ:Store)(K:AV→Prop):Ue P t (.list r s es) σ K=lnL (P.underlying t) es.length K:=by
 unfold Ue lnL;generalize P.underlying t=d;cases d with
 | none=>rfl
 | some d=>cases d<;>rfl
theorem KS (P:Program)(t:Nat)(a:Option Addr)(n c:Nat)(σ:Store)(K:AV→Prop):Ue P t (.val (.slice a n c)) σ K=lnL (P.underlying t) n K:=by
 unfold Ue lnL;generalize P.underlying t=d;cases d with
 | none=>rfl
 | some d=>cases d<;>rfl
theorem Do (P:Program)(t:Nat)(s:ByteArray)(σ:Store)(K:AV→Prop)(h:P.underlying t=some .string):Ue P t (.val (.string s)) σ K=K (.val (.int .i64 s.size)):=by
 unfold Ue;simp only [h]
def cuS (s:ByteArray)(l h:Option Int)(K:AV→Prop):Prop :=
 match l,h with
 | some l,some h=>0≤l∧l≤h∧h≤s.size∧K (.val (.string (s.extract l.toNat h.toNat)))
 | _,_=>False
theorem EA (s:ByteArray)(l h:Int)(K:AV→Prop):cuS s (some l) (some h) K=(0≤l∧l≤h∧h≤s.size∧K (.val (.string (s.extract l.toNat h.toNat)))):=propext Iff.rfl
theorem Dw (P:Program)(t:Nat)(s:ByteArray)(lo hi:Option AV)(K:AV→Prop)(hu:P.underlying t=some .string):Ru P t (.val (.string s)) lo hi none K=cuS s (Wf lo 0) (Wf hi s.size) K:=by
 unfold Ru cuS;simp only [hu];cases Wf lo 0<;>cases Wf hi s.size<;>rfl
def cuD (P:Program)(d:Option TypeDesc)(r:Rt)(s:Nat)(es:List (List AV))(hi:Option AV)(l h:Option Int)(K:AV→Prop):Prop :=
 match d with
 | some (.slice e)=>cuL P r s es e hi l h K
 | _=>False
theorem Hm (P:Program)(e:Nat)(r:Rt)(s:Nat)(es:List (List AV))(hi:Option AV)(l h:Option Int)(K:AV→Prop):cuD P (some (.slice e)) r s es hi l h K=cuL P r s es e hi l h K:=propext Iff.rfl
theorem HR (P:Program)(t:Nat)(r:Rt)(s:Nat)(es:List (List AV))(lo hi:Option AV)(K:AV→Prop):Ru P t (.list r s es) lo hi none K=cuD P (P.underlying t) r s es hi (Wf lo 0) (Wf hi es.length) K:=by
 unfold Ru cuD cuL;generalize P.underlying t=d;cases d with
 | none=>rfl
 | some d =>
   cases d<;>try rfl
   simp only;cases Wf lo 0<;>cases Wf hi es.length<;>rfl
section
variable {P:Program} {ev:Operand→AV} {σ:Store} {K:AV→Prop}
theorem DV (x:Operand):ZL P ev σ K (.move x)=K (ev x):=propext Iff.rfl
theorem Ir (x:Operand):ZL P ev σ K (.assign x)=K (ev x):=propext Iff.rfl
theorem DU (c a b:Operand):ZL P ev σ K (.pick c a b)=pkK (ev c) (ev a) (ev b) K:=by
 unfold pkK;simp only [ZL];cases ev c<;>try rfl
def bxP (cs:Option (List AV))(K:AV→Prop):Prop:=match cs with | some cs=>cs.all AV.one=true∧K (.ro cs) | none=>False
theorem EL (cs:List AV):bxP (some cs) K=(cs.all AV.one=true∧K (.ro cs)):=propext Iff.rfl
theorem BZ (T:TypeId)(x:Operand):ZL P ev σ K (.box T x)=bxP (ev x).cells K:=propext Iff.rfl
theorem G5 (t:TypeId)(ps:List (Nat×Operand)):ZL P ev σ K (.build t ⟨ps⟩)=Vq P t (ps.map fun p=>(p.1,ev p.2)) K:=propext Iff.rfl
theorem Pl (t:TypeId)(n:Nat)(ps:List (Nat×Operand)):ZL P ev σ K (.buildSlice t n ⟨ps⟩)=YU P t n (ps.map fun p=>(p.1,ev p.2)) K:=propext Iff.rfl
theorem DW (T:TypeId)(x:Operand):ZL P ev σ K (.load T x)=Wg P T (ev x) σ K:=propext Iff.rfl
theorem Mc (x:Operand):ZL P ev σ K (.nilCheck x)=Q3 (ev x) K:=propext Iff.rfl
theorem G8 (op:BinOp)(T T':TypeId)(x y:Operand):ZL P ev σ K (.binOp op T x y T')=XR P op T (ev x) (ev y) y K:=propext Iff.rfl
theorem DT (op:UnOp)(T:TypeId)(x:Operand):ZL P ev σ K (.unOp op T x)=aun op (ev x) K:=propext Iff.rfl
theorem LX (s d:TypeId)(x:Operand):ZL P ev σ K (.convert s d x)=Tf P s d (ev x) K:=propext Iff.rfl
theorem Sn (T:TypeId)(x:Operand):ZL P ev σ K (.makeInterface T x)=V1 P T (ev x) K:=propext Iff.rfl
theorem Md (fn:Fn)(f c:List Operand):ZL P ev σ K (.makeFunc fn ⟨f⟩ ⟨c⟩)=mfK fn (cV (f.map ev)) (cV (c.map ev)) K:=propext Iff.rfl
theorem GZ (t:TypeId)(x:Operand)(lo hi mx:Option Operand):ZL P ev σ K (.slice t x lo hi mx)=Ru P t (ev x) (lo.map ev) (hi.map ev) (mx.map ev) K:=propext Iff.rfl
theorem OW (s:TypeId)(x:Operand)(f:Nat):ZL P ev σ K (.fieldAddr s x f)=WB P s (ev x) f K:=propext Iff.rfl
theorem G1 (s:TypeId)(x:Operand)(f:Nat):ZL P ev σ K (.field s x f)=Wt P s (ev x) f K:=propext Iff.rfl
theorem OV (t:TypeId)(x i:Operand):ZL P ev σ K (.indexAddr t x i)=Z7 P t (ev x) (ev i) K:=propext Iff.rfl
theorem G0 (t:TypeId)(x i:Operand):ZL P ev σ K (.index t x i)=Vp P t (ev x) (ev i) K:=propext Iff.rfl
theorem LW (x:Operand)(i:Nat):ZL P ev σ K (.extract x i)=XO (ev x) i K:=propext Iff.rfl
def Pf (P:Program)(f:AV)(args:List AV)(σ:Store)(K:AV→Prop):Prop:=∃ v,(∀ σ',XS σ σ'→ZX P f args σ' (Z8 v σ'))∧K v
theorem Pf.mk {f:AV}{args:List AV}{v:AV}(h:∀ σ',XS σ σ'→ZX P f args σ' (Z8 v σ'))(hk:K v):Pf P f args σ K:=⟨v,h,hk⟩
theorem DX (f:Operand)(args:List Operand)(ts:Array TypeId):ZL P ev σ K (.call ⟨.value f,⟨args⟩,ts⟩)=Pf P (ev f) (args.map ev) σ K:=propext Iff.rfl
def pbt (P:Program)(b:Builtin)(ts:List TypeId)(args:List AV)(σ:Store)(K:AV→Prop):Prop :=
 match b,ts,args with
 | .len,[t],[x]=>Ue P t x σ K
 | .max,_,xs=>amm true xs K
 | .min,_,xs=>amm false xs K
 | _,_,_=>False
theorem D2 (t:TypeId)(x:AV):pbt P .len [t] [x] σ K=Ue P t x σ K:=propext Iff.rfl
theorem D1 (ts:List TypeId)(xs:List AV):pbt P .max ts xs σ K=amm true xs K:=propext Iff.rfl
theorem D0 (ts:List TypeId)(xs:List AV):pbt P .min ts xs σ K=amm false xs K:=propext Iff.rfl
theorem LY (b:Builtin)(args:List Operand)(ts:List TypeId):ZL P ev σ K (.call ⟨.builtin b,⟨args⟩,⟨ts⟩⟩)=pbt P b ts (args.map ev) σ K:=by
 cases b<;>try rfl
 simp only [ZL,pbt]
 cases ts with
 | nil=>rfl
 | cons t r => cases r<;>cases args<;>try rfl
               all_goals (rename_i a b;cases b<;>rfl)
theorem Ye (op:BinOp)(T:TypeId)(x y:AV)(yc:Operand){v:AV}(h:Ym P op T x y (opC yc)=some v):XR P op T x y yc K=K v:=by
 simp only [XR,h]
theorem Ak (P:Program)(T:TypeId)(k:IntKind)(a b:Int)(yc:Operand)(K:AV→Prop):XR P .add T (.val (.int k a)) (.val (.int k b)) yc K=K (.val (.int k (k.wrap (a+b)))):=Ye _ _ _ _ _ (by simp [Ym])
theorem B1 (P:Program)(T:TypeId)(k:IntKind)(a b:Int)(yc:Operand)(K:AV→Prop):XR P .sub T (.val (.int k a)) (.val (.int k b)) yc K=K (.val (.int k (k.wrap (a-b)))):=Ye _ _ _ _ _ (by simp [Ym])
theorem Ab (P:Program)(T:TypeId)(k:IntKind)(a b:Int)(yc:Operand)(K:AV→Prop):XR P .mul T (.val (.int k a)) (.val (.int k b)) yc K=K (.val (.int k (k.wrap (a * b)))):=Ye _ _ _ _ _ (by simp [Ym])
theorem Ac (P:Program)(T:TypeId)(k:IntKind)(a b:Int)(yc:Operand)(K:AV→Prop):XR P .lss T (.val (.int k a)) (.val (.int k b)) yc K=K (.val (.bool (decide (a<b)))):=Ye _ _ _ _ _ (by simp [Ym])
theorem Ad (P:Program)(T:TypeId)(k:IntKind)(a b:Int)(yc:Operand)(K:AV→Prop):XR P .leq T (.val (.int k a)) (.val (.int k b)) yc K=K (.val (.bool (decide (a≤b)))):=Ye _ _ _ _ _ (by simp [Ym])
theorem Ae (P:Program)(T:TypeId)(k:IntKind)(a b:Int)(yc:Operand)(K:AV→Prop):XR P .gtr T (.val (.int k a)) (.val (.int k b)) yc K=K (.val (.bool (decide (b<a)))):=Ye _ _ _ _ _ (by simp [Ym])
theorem Af (P:Program)(T:TypeId)(k:IntKind)(a b:Int)(yc:Operand)(K:AV→Prop):XR P .geq T (.val (.int k a)) (.val (.int k b)) yc K=K (.val (.bool (decide (b≤a)))):=Ye _ _ _ _ _ (by simp [Ym])
theorem Ag (P:Program)(T:TypeId)(k:IntKind)(a b:Int)(yc:Operand)(K:AV→Prop):XR P .eql T (.val (.int k a)) (.val (.int k b)) yc K=K (.val (.bool (decide (a=b)))):=Ye _ _ _ _ _ (by simp [Ym])
theorem Aa (P:Program)(T:TypeId)(k:IntKind)(a b:Int)(yc:Operand)(K:AV→Prop):XR P .neq T (.val (.int k a)) (.val (.int k b)) yc K=K (.val (.bool (!decide (a=b)))):=Ye _ _ _ _ _ (by simp [Ym])
theorem B9 (P:Program)(T:TypeId)(k:IntKind)(a b:Int)(yc:Operand)(K:AV→Prop)(h:b≠0):XR P .quo T (.val (.int k a)) (.val (.int k b)) yc K=K (.val (.int k (k.wrap (a.tdiv b)))):=Ye _ _ _ _ _ (by simp [Ym,opC,h])
theorem B8 (P:Program)(T:TypeId)(k:IntKind)(a b:Int)(yc:Operand)(K:AV→Prop)(h:b≠0):XR P .rem T (.val (.int k a)) (.val (.int k b)) yc K=K (.val (.int k (a.tmod b))):=Ye _ _ _ _ _ (by simp [Ym,opC,h])
theorem B5 (P:Program)(T:TypeId)(k k':IntKind)(a b:Int)(yc:Operand)(K:AV→Prop)(h:0≤b):XR P .shl T (.val (.int k a)) (.val (.int k' b)) yc K=K (.val (.int k (k.wrap (a * 2 ^ min b.toNat k.bits)))):=Ye _ _ _ _ _ (by simp [Ym,opC,h])
theorem B4 (P:Program)(T:TypeId)(k k':IntKind)(a b:Int)(yc:Operand)(K:AV→Prop)(h:0≤b):XR P .shr T (.val (.int k a)) (.val (.int k' b)) yc K=K (.val (.int k (a.fdiv (2 ^ min b.toNat k.bits)))):=Ye _ _ _ _ _ (by simp [Ym,opC,h])
theorem B0 (P:Program)(T:TypeId)(k:IntKind)(a b:Int)(yc:Operand)(K:AV→Prop):XR P .xor T (.val (.int k a)) (.val (.int k b)) yc K=K (.val (.int k (k.wrap (BitVec.ofInt k.bits a ^^^ BitVec.ofInt k.bits b).toNat))):=Ye _ _ _ _ _ (by simp [Ym])
theorem Aj (P:Program)(T:TypeId)(k:IntKind)(a b:Int)(yc:Operand)(K:AV→Prop):XR P .and T (.val (.int k a)) (.val (.int k b)) yc K=K (.val (.int k (k.wrap (BitVec.ofInt k.bits a &&& BitVec.ofInt k.bits b).toNat))):=Ye _ _ _ _ _ (by simp [Ym])
theorem B7 (P:Program)(T:TypeId)(a b:ByteArray)(yc:Operand)(K:AV→Prop):XR P .eql T (.val (.string a)) (.val (.string b)) yc K=K (.val (.bool (decide (a=b)))):=Ye _ _ _ _ _ (by simp [Ym])
theorem B2 (P:Program)(T:TypeId)(a b:ByteArray)(yc:Operand)(K:AV→Prop):XR P .neq T (.val (.string a)) (.val (.string b)) yc K=K (.val (.bool (!decide (a=b)))):=Ye _ _ _ _ _ (by simp [Ym])
theorem B3 (P:Program)(T:TypeId)(a b:ByteArray)(yc:Operand)(K:AV→Prop):XR P .lss T (.val (.string a)) (.val (.string b)) yc K=K (.val (.bool (decide (Op.bytesLess a.data.toList b.data.toList=true)))):=Ye _ _ _ _ _ (by simp [Ym])
theorem B6 (P:Program)(T:TypeId)(a b:ByteArray)(yc:Operand)(K:AV→Prop):XR P .gtr T (.val (.string a)) (.val (.string b)) yc K=K (.val (.bool (!decide (Op.bytesLess a.data.toList b.data.toList=true∨a=b)))):=Ye _ _ _ _ _ (by simp [Ym])
theorem Ai (P:Program)(T:TypeId)(a b:Bool)(yc:Operand)(K:AV→Prop)(h:P.underlying T=some .bool):XR P .eql T (.val (.bool a)) (.val (.bool b)) yc K=K (.val (.bool (decide (a=b)))):=Ye _ _ _ _ _ (by simp [Ym,opC,h])
theorem Ah (P:Program)(T:TypeId)(a b:Bool)(yc:Operand)(K:AV→Prop)(h:P.underlying T=some .bool):XR P .neq T (.val (.bool a)) (.val (.bool b)) yc K=K (.val (.bool (!decide (a=b)))):=Ye _ _ _ _ _ (by simp [Ym,opC,h])
theorem Fa (P:Program)(T:TypeId)(c:Value)(K:AV→Prop)(h:ZJ (P.underlying T)=true):XR P .neq T (.val .nilIface) (.val .nilIface) (.const c) K=K (.val (.bool false)):=Ye _ _ _ _ _ (by simp [Ym,opC,h])
theorem Fb (P:Program)(T:TypeId)(c:Value)(K:AV→Prop)(h:ZJ (P.underlying T)=true):XR P .eql T (.val .nilIface) (.val .nilIface) (.const c) K=K (.val (.bool true)):=Ye _ _ _ _ _ (by simp [Ym,opC,h])
theorem D3 (P:Program)(T t:TypeId)(v:Value)(yc:Operand)(K:AV→Prop)(h:ZJ (P.underlying T)=true):XR P .neq T (.val (.iface t v)) (.val .nilIface) yc K=K (.val (.bool true)):=Ye _ _ _ _ _ (by simp [Ym,opC,h])
theorem D4 (P:Program)(T t:TypeId)(v:Value)(yc:Operand)(K:AV→Prop)(h:ZJ (P.underlying T)=true):XR P .eql T (.val (.iface t v)) (.val .nilIface) yc K=K (.val (.bool false)):=Ye _ _ _ _ _ (by simp [Ym,opC,h])
end
attribute [go_sem ↓]  EU KF EY EV AN AM AL AK AJ AH EZ Hy EW EX CN Dh Dg Di FO FP IV CT HC CR E9 AO
attribute [go_sem ↓]  E7 PD CU E0 MZ E8 CQ KJ SJ M0 Ny E1 NA E5 Nz E4 KI PC E3 CW
attribute [go_sem ↓]  CX KH Nw HB HA E2 CS E6 ND KK FI FG Cn Cp Cq Ms FH IW Kf Pr Kj My Na O9 I1 Mw HO Dd Dc
attribute [go_sem ↓] aR aS AQ AR HG HI HH Cr CF Fh FK FL Iz
attribute [go_sem ↓]  HD Dq Kd IU IR C5 C6 FY I7 Co Ds Dt I8 I9 FM FN FZ DV Ir DU
attribute [go_sem ↓]  BZ G5 Pl DW Mc G8 DT LX Sn Md GZ OW G1 OV G0 LW DX LY
attribute [go_sem]  G9 It DY Dp EM Fm Is Y5 KY Lf HT KZ Ef MH F7 Ec F8 Eb Ed Ee
attribute [go_sem]  F9 Ea Ix Iy Iw Da Io Ip DS of_nil of_cons AC Es Hi CE Fy IG Mm Po O4
attribute [go_sem]  L7 Fw Fz Fx IK L8 O5 Mn Pq Qq II IJ Lq Lp NM Ph OA RJ Rk Ln
attribute [go_sem]  Lo Ht KC Ns Hr Hs KB PA MT QZ MS KA EK Hu D7 Ff L0 D5 D6 Fe
attribute [go_sem]  Me Iv OY Iu Fd Am Pz Cg Bd Bc Zi Za Zy Z6 Zk Sk Option.isSome_some Ey Jz FE Dn HK GA KG Ep
attribute [go_sem]  Er HQ KV FS Rs FQ SM PF PE Ct Aw Fl C8 EO EQ Df De CZ K5 IF
attribute [go_sem]  EA Hm FR KT Eg La ap AU A8 A9 aa ac ah aj A7 A6 A5 AZ AY AS
attribute [go_sem]  an A4 AW AX A0 al ak Dx Dy Be Bf K4 K3 HS CO CP FV HN Li NH
attribute [go_sem]  ER HU EP Pb HM Do KS Dw EB HR Kn Km C2 C1 Dl HE C0 K1 Bb Ba
attribute [go_sem]  C9 Vj Yu V9 XC AV.toVal cV Value.cells if_true if_false List.map_cons List.map_nil List.getD_cons_zero List.getD_cons_succ List.getD_nil List.length_cons List.length_nil List.all_cons List.all_nil Bool.and_self
attribute [go_sem]  Bool.true_and Bool.and_true List.take_succ_cons List.take_zero List.take_nil List.drop_succ_cons List.drop_zero List.drop_nil List.cons_append List.nil_append List.append_nil List.head?_cons List.getElem?_cons_zero List.getElem?_cons_succ List.getElem?_nil List.getElem?_toArray Option.bind_some Option.bind_none Option.map_some Option.map_none
attribute [go_sem]  true_and and_true forall_const ne_eq not_false_eq_true not_true_eq_false false_implies true_implies Nat.zero_add Nat.add_zero Nat.le_refl eq_self Bool.not_true Bool.not_false Bool.true_eq_false Bool.false_eq_true imp_self implies_true List.size_toArray true_or
attribute [go_sem]  or_true C7 Hl Ih EL D2 D1 D0 Ak B1 Ab Ac Ad Ae Af Ag Aa B9 B8 B5
attribute [go_sem]  B4 B0 Aj B7 B2 B3 B6 Ai Ah Fa Fb D3 D4
end Go.Vx
