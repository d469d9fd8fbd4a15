/- A part of the proof of clausalSpinesProved. -/
import Derived.Test.YtllgjklcpieanaaGreatDoorR08
set_option linter.unusedVariables false
set_option linter.unusedSimpArgs false
namespace Go.Vx
theorem Cm(fr:Fr)(d:Nat)(v:AV)(i:Nat):(fr.put d v) i=if i=d then v else fr i:=rfl
theorem I1(fr:Fr)(d:Nat)(v:AV):fr.putO (some d) v=fr.put d v:=rfl
theorem I2(fr:Fr)(v:AV):fr.putO none v=fr:=rfl
theorem DB(aS:List AV)(i:Nat):Fr.args aS i=aS.getD i (.val undef):=rfl
theorem of_nil(i:Nat):Fr.of [] i=.any:=rfl
theorem of_cons(j:Nat)(v:AV)(l:List (Nat×AV))(i:Nat):Fr.of ((j,v)::l) i=if i=j then v else Fr.of l i:=rfl
theorem A3(fr:Fr)(t:Nat):fr.ev (.tmp t)=fr t:=rfl
theorem EP(fr:Fr)(v:nG):fr.ev (.const v)=dL v:=rfl
theorem H9(fr:Fr)(g:Nat):fr.ev (.global g)=.val (.pointer (some ⟨g,0,none⟩)):=rfl
theorem Be(fr:Fr)(g:Nat):fr.ev (.func g)=.val (.func (.func g) #[] #[]):=rfl
theorem FU(k:IntKind)(n:Int):dL (.int k n)=.val (.int k n):=rfl
theorem Hp(b:Bool):dL (.bool b)=.val (.bool b):=rfl
theorem MP(s:ByteArray):dL (.string s)=.val (.string s):=rfl
theorem PG:dL .nilIface=.val .nilIface:=rfl
theorem Nh:dL .nilFunc=.val .nilFunc:=rfl
theorem KE:dL (.slice none 0 0)=.list .full 0 []:=rfl
theorem FR(p:nM Addr):dL (.pointer p)=.val (.pointer p):=rfl
theorem FV(l:List nG):dL (.agg ⟨l⟩)=.agg (l.map dq):=rfl
theorem Hs(k:IntKind)(n:Int):dq (.int k n)=.val (.int k n):=rfl
theorem KF(b:Bool):dq (.bool b)=.val (.bool b):=rfl
theorem Ni(s:ByteArray):dq (.string s)=.val (.string s):=rfl
theorem MQ:dq (.slice none 0 0)=.list .full 0 []:=rfl
theorem PH:dq .nilFunc=.val .nilFunc:=rfl
theorem QE:dq .nilIface=.val .nilIface:=rfl
theorem Hq(p:nM Addr):dq (.pointer p)=.val (.pointer p):=rfl
theorem Hr(p:nM Nat):dq (.map p)=.val (.map p):=rfl
theorem FS(p:nM Nat):dL (.map p)=.val (.map p):=rfl
theorem LZ(l:List nG):YE (.agg ⟨l⟩)=l.map dq:=rfl
theorem LY(k:IntKind)(n:Int):YE (.int k n)=[.val (.int k n)]:=rfl
theorem Ma(b:Bool):YE (.bool b)=[.val (.bool b)]:=rfl
theorem PB(s:ByteArray):YE (.string s)=[.val (.string s)]:=rfl
theorem OV:YE (.slice none 0 0)=[.list .full 0 []]:=rfl
theorem Qa:YE .nilFunc=[.val .nilFunc]:=rfl
theorem RX:YE .nilIface=[.val .nilIface]:=rfl
theorem LW(p:nM Addr):YE (.pointer p)=[.val (.pointer p)]:=rfl
theorem LX(p:nM Nat):YE (.map p)=[.val (.map p)]:=rfl
def cd(P:nE)(mu:List Nat)(ops:nN nI)(Q:Exit->Fr->Store->Prop)(σ:Store)(p:Nat×Nat)(l:List nI)(fr:Fr):Prop:=adk P mu ops Q σ p.2 p.1 l fr
theorem BN(P:nE)(mu:List Nat)(ops:nN nI)(Q:Exit->Fr->Store->Prop)(σ:Store)(m k:Nat)(l:List nI)(fr:Fr):cd P mu ops Q σ (m,k) l fr=adk P mu ops Q σ k m l fr:=propext mG
theorem aJ(P:nE)(mu:List Nat)(ops:nN nI)(Q:Exit->Fr->Store->Prop)(σ:Store)(m k:Nat)(l:List nI)(fr:Fr)(h:k<3):adk P mu ops Q σ k m l fr=ahd P mu ops Q σ k m l fr:=by unfold adk;rw[ig xh]
def B1:Store->Prop:=fun _=>True
theorem aK(P:nE)(mu:List Nat)(ops:nN nI)(Q:Exit->Fr->Store->Prop)(σ:Store)(m k:Nat)(l:List nI)(fr:Fr)(h:2<k):adk P mu ops Q σ k m l fr=R3 P mu ops Q σ (m-(k-3)-1) (k-3) l B1 fr:=by unfold adk;rw[gZ xh];rfl
theorem Hi(σ:Store):B1 σ=True:=rfl
theorem GB(P:nE)(mu:List Nat)(ops:nN nI)(Q:Exit->Fr->Store->Prop)(σ:Store)(m:Nat)(d:Nat)(op:Op)(ty:nF)(pos:String)(af:nN Edge)(r:List nI)(O:Store->Prop)(fr:Fr) :
 R3 P mu ops Q σ m 0 (⟨some d,op,ty,pos,af,none⟩::r) O fr=ZA P (mu.contains d) fr.ev σ (KM P mu ops Q O m r fr (some d)) op:=by simp only[R3,jt]
theorem GD(P:nE)(mu:List Nat)(ops:nN nI)(Q:Exit->Fr->Store->Prop)(σ:Store)(m:Nat)(op:Op)(ty:nF)(pos:String)(af:nN Edge)(r:List nI)(O:Store->Prop)(fr:Fr) :
 R3 P mu ops Q σ m 0 (⟨none,op,ty,pos,af,none⟩::r) O fr=ZA P false fr.ev σ (KM P mu ops Q O m r fr none) op:=by simp only[R3,jt]
theorem GC(P:nE)(mu:List Nat)(ops:nN nI)(Q:Exit->Fr->Store->Prop)(σ:Store)(m s:Nat)(d:nM Nat)(op:Op)(ty:nF)(pos:String)(af:nN Edge)(r:List nI)(O:Store->Prop)(fr:Fr) :
 R3 P mu ops Q σ m (s+1) (⟨d,op,ty,pos,af,none⟩::r) O fr=ZN P fr.ev σ (kOb P (R3 P mu ops Q σ m s r) O fr d op) op:=by simp only[R3,jt]
theorem CU(P:nE)(k:(Store->Prop)->Fr->Prop)(O:Store->Prop)(fr:Fr)(d:nM Nat)(op:Op)(v:AV):kOb P k O fr d op v=k (Aw P O fr op v) (fr.putO d v):=rfl
def eqV(v:AV):AV->Prop:=fun u=>u=v
theorem Bf(v u:AV):eqV v u=(u=v):=rfl
theorem FJ(P:nE)(O:Store->Prop)(fr:Fr)(op:Op)(v:AV)(σ':Store):Aw P O fr op v σ'=(O σ'/\ZN P fr.ev σ' (eqV v) op):=rfl
theorem F8(P:nE)(mu:List Nat)(ops:nN nI)(Q:Exit->Fr->Store->Prop)(O:Store->Prop)(m:Nat)(r:List nI)(fr:Fr)(d:nM Nat)(v:AV)(σ':Store):KM P mu ops Q O m r fr d (.ret v) σ'=(O σ'/\ahd P mu ops Q σ' 0 m r (fr.putO d v)):=rfl
theorem F9(P:nE)(mu:List Nat)(ops:nN nI)(Q:Exit->Fr->Store->Prop)(O:Store->Prop)(m:Nat)(r:List nI)(fr:Fr)(d:nM Nat)(v:nG)(σ':Store):KM P mu ops Q O m r fr d (.pan v) σ'=∀ fr',Q (.panic [{ v:=v,recovered:=false }]) fr' σ':=rfl
theorem Ga(i m k:Nat)(r:List (Nat×Nat×Nat))(id:Nat):Rq ((i,m,k)::r) id=if i=id then(m,k) else Rq r id:=rfl
theorem DQ(P:nE)(mu:List Nat)(ops:nN nI)(Q:Exit->Fr->Store->Prop)(σ:Store)(k:Nat)(l:List nI)(fr:Fr):ahd P mu ops Q σ k 0 l fr=QJ P mu ops Q σ l k fr:=propext mG
theorem KH(P:nE)(mu:List Nat)(ops:nN nI)(Q:Exit->Fr->Store->Prop)(σ:Store)(l:List nI)(fr:Fr):QJ P mu ops Q σ l 0 fr=XU P mu ops l Q fr σ:=propext mG
theorem Hz(P:nE)(mu:List Nat)(ops:nN nI)(Q:Exit->Fr->Store->Prop)(σ:Store)(l:List nI)(fr:Fr):QJ P mu ops Q σ l 1 fr=JB P mu ops false Q σ l fr:=propext mG
theorem Hy(P:nE)(mu:List Nat)(ops:nN nI)(Q:Exit->Fr->Store->Prop)(σ:Store)(l:List nI)(fr:Fr):QJ P mu ops Q σ l 2 fr=JB P mu ops true Q σ l fr:=propext mG
theorem BJ(P:nE)(mu:List Nat)(ops:nN nI)(Q:Exit->Fr->Store->Prop)(σ:Store)(k m:Nat)(d:nM Nat)(op:Op)(ty:nF)(pos:String)(af:nN Edge)(r:List nI)(fr:Fr) :
 ahd P mu ops Q σ k (m+1) (⟨d,op,ty,pos,af,none⟩::r) fr=ZN P fr.ev σ (kPs (ahd P mu ops Q σ k m r) fr d) op:=propext mG
theorem BL(P:nE)(mu:List Nat)(ops:nN nI)(Q:Exit->Fr->Store->Prop)(σ:Store)(k m:Nat)(d:nM Nat)(op:Op)(ty:nF)(pos:String)(af:nN Edge)(g:Nat×Bool)(r:List nI)(fr:Fr) :
 ahd P mu ops Q σ k (m+1) (⟨d,op,ty,pos,af,some g⟩::r) fr=XV ops (some g) fr (C1 P (ahd P mu ops Q σ k m r) σ ⟨d,op,ty,pos,af,some g⟩) (Iv (ahd P mu ops Q σ k m r) d):=propext mG
theorem Et(P:nE)(k:Fr->Prop)(σ:Store)(d:nM Nat)(op:Op)(ty:nF)(pos:String)(af:nN Edge)(g:nM (Nat×Bool))(fr:Fr):C1 P k σ ⟨d,op,ty,pos,af,g⟩ fr=ZN P fr.ev σ (kPs k fr d) op:=propext mG
theorem HU(k:Fr->Prop)(d:nM Nat)(fr:Fr):Iv k d fr=k (fr.putO d (.val undef)):=propext mG
theorem CR(k:Fr->Prop)(fr:Fr)(d:nM Nat)(v:AV):kPs k fr d v=k (fr.putO d v):=propext mG
theorem DT(P:nE)(mu:List Nat)(ops:nN nI)(fb:Bool)(Q:Exit->Fr->Store->Prop)(σ:Store)(d:nM Nat)(op:Op)(ty:nF)(pos:String)(af:nN Edge)(r:List nI)(fr:Fr) :
 JB P mu ops fb Q σ (⟨d,op,ty,pos,af,none⟩::r) fr=C2 P mu (XU P mu ops r) Q fb σ ⟨d,op,ty,pos,af,none⟩ fr:=propext mG
theorem HV(P:nE)(mu:List Nat)(k:((Exit->Fr->Store->Prop)->Fr->Store->Prop))(Q:Exit->Fr->Store->Prop)(fb:Bool)(σ:Store)(d:Nat)(op:Op)(ty:nF)(pos:String)(af:nN Edge)(g:nM (Nat×Bool))(fr:Fr) :
 C2 P mu k Q fb σ ⟨some d,op,ty,pos,af,g⟩ fr=ZA P (mu.contains d) fr.ev σ (Eb k Q fb fr (some d) σ) op:=propext mG
theorem HW(P:nE)(mu:List Nat)(k:((Exit->Fr->Store->Prop)->Fr->Store->Prop))(Q:Exit->Fr->Store->Prop)(fb:Bool)(σ:Store)(op:Op)(ty:nF)(pos:String)(af:nN Edge)(g:nM (Nat×Bool))(fr:Fr) :
 C2 P mu k Q fb σ ⟨none,op,ty,pos,af,g⟩ fr=ZA P false fr.ev σ (Eb k Q fb fr none σ) op:=propext mG
theorem Ea(k:((Exit->Fr->Store->Prop)->Fr->Store->Prop))(Q:Exit->Fr->Store->Prop)(fb:Bool)(fr:Fr)(d:nM Nat)(σ σ':Store)(v:AV):Eb k Q fb fr d σ (.ret v) σ'=((fb=true\/Xl σ σ')/\k Q (fr.putO d v) σ'):=propext mG
theorem IX(σ:Store):Xl σ σ=True:=iS (.refl σ)
theorem Dj(P:nE)(n:Nat)(ds:List nK)(mu:List Nat)(dr:List (Nat×Nat×Nat))(Q:Exit->Fr->Store->Prop)(fr:Fr)(σ:Store):avc P n ds mu dr .skip Q fr σ=Q .normal fr σ:=propext mG
theorem Jk(P:nE)(n:Nat)(ds:List nK)(mu:List Nat)(dr:List (Nat×Nat×Nat))(id:Nat)(l:List nI)(Q:Exit->Fr->Store->Prop)(fr:Fr)(σ:Store):avc P n ds mu dr (.region id ⟨l⟩ false) Q fr σ=XU P mu ⟨l⟩ l Q fr σ:=propext mG
theorem Do(P:nE)(n:Nat)(ds:List nK)(mu:List Nat)(dr:List (Nat×Nat×Nat))(id:Nat)(l:List nI)(Q:Exit->Fr->Store->Prop)(fr:Fr)(σ:Store):avc P n ds mu dr (.region id ⟨l⟩ true) Q fr σ=cd P mu ⟨l⟩ Q σ (Rq dr id) l fr:=propext mG
def sqA(P:nE)(n:Nat)(ds:List nK)(mu:List Nat)(dr:List (Nat×Nat×Nat))(r:Nat×Nat)(a b:Code)(Q:Exit->Fr->Store->Prop)(fr:Fr)(σ:Store):Prop :=
 if 1000<=r.1 then AWp P n ds (.seq a b) Q fr σ else avc P n ds mu dr a (V9 (avc P n ds mu dr b) Q) fr σ
theorem bE(P:nE)(n:Nat)(ds:List nK)(mu:List Nat)(dr:List (Nat×Nat×Nat))(m k:Nat)(a b:Code)(Q:Exit->Fr->Store->Prop)(fr:Fr)(σ:Store)(h:999<m):sqA P n ds mu dr (m,k) a b Q fr σ=AWp P n ds (.seq a b) Q fr σ:=by unfold sqA;rw[gZ xS]
theorem bF(P:nE)(n:Nat)(ds:List nK)(mu:List Nat)(dr:List (Nat×Nat×Nat))(m k:Nat)(a b:Code)(Q:Exit->Fr->Store->Prop)(fr:Fr)(σ:Store)(h:m<1000):sqA P n ds mu dr (m,k) a b Q fr σ=avc P n ds mu dr a (V9 (avc P n ds mu dr b) Q) fr σ:=by unfold sqA;rw[ig xS]
theorem Vg(P:nE)(n:Nat)(ds:List nK)(mu:List Nat)(dr:List (Nat×Nat×Nat))(a b:Code)(Q:Exit->Fr->Store->Prop)(fr:Fr)(σ:Store)(h:I0 dr a=false):avc P n ds mu dr (.seq a b) Q fr σ=avc P n ds mu dr a (V9 (avc P n ds mu dr b) Q) fr σ:=by simp only[avc,h,me,lJ]
theorem Dk(P:nE)(n:Nat)(ds:List nK)(mu:List Nat)(dr:List (Nat×Nat×Nat))(id:Nat)(l:nN nI)(b:Code)(Q:Exit->Fr->Store->Prop)(fr:Fr)(σ:Store):avc P n ds mu dr (.seq (.region id l true) b) Q fr σ=sqA P n ds mu dr (Rq dr id) (.region id l true) b Q fr σ:=by
 by_cases h:1000<=(Rq dr id).1
 ·unfold sqA;rw[gZ h];simp only[avc,I0,jy h,iE]
 ·unfold sqA;rw[ig h];exact Vg _ _ _ _ _ _ _ _ _ _ (by simp only[I0];exact jY h)
theorem aC(P:nE)(n:Nat)(ds:List nK)(mu:List Nat)(dr:List (Nat×Nat×Nat))(id:Nat)(l:nN nI)(b:Code)(Q:Exit->Fr->Store->Prop)(fr:Fr)(σ:Store):avc P n ds mu dr (.seq (.region id l false) b) Q fr σ=avc P n ds mu dr (.region id l false) (V9 (avc P n ds mu dr b) Q) fr σ:=Vg _ _ _ _ _ _ _ _ _ _ rfl
theorem aB(P:nE)(n:Nat)(ds:List nK)(mu:List Nat)(dr:List (Nat×Nat×Nat))(x y b:Code)(Q:Exit->Fr->Store->Prop)(fr:Fr)(σ:Store):avc P n ds mu dr (.seq (.seq x y) b) Q fr σ=avc P n ds mu dr (.seq x y) (V9 (avc P n ds mu dr b) Q) fr σ:=Vg _ _ _ _ _ _ _ _ _ _ rfl
theorem aA(P:nE)(n:Nat)(ds:List nK)(mu:List Nat)(dr:List (Nat×Nat×Nat))(c:nJ)(x y b:Code)(Q:Exit->Fr->Store->Prop)(fr:Fr)(σ:Store):avc P n ds mu dr (.seq (.cond c x y) b) Q fr σ=avc P n ds mu dr (.cond c x y) (V9 (avc P n ds mu dr b) Q) fr σ:=Vg _ _ _ _ _ _ _ _ _ _ rfl
theorem az(P:nE)(n:Nat)(ds:List nK)(mu:List Nat)(dr:List (Nat×Nat×Nat))(i:Nat)(x b:Code)(Q:Exit->Fr->Store->Prop)(fr:Fr)(σ:Store):avc P n ds mu dr (.seq (.block i x) b) Q fr σ=avc P n ds mu dr (.block i x) (V9 (avc P n ds mu dr b) Q) fr σ:=Vg _ _ _ _ _ _ _ _ _ _ rfl
theorem aw(P:nE)(n:Nat)(ds:List nK)(mu:List Nat)(dr:List (Nat×Nat×Nat))(x b:Code)(Q:Exit->Fr->Store->Prop)(fr:Fr)(σ:Store):avc P n ds mu dr (.seq (.loop x) b) Q fr σ=avc P n ds mu dr (.loop x) (V9 (avc P n ds mu dr b) Q) fr σ:=Vg _ _ _ _ _ _ _ _ _ _ rfl
theorem ar(P:nE)(n:Nat)(ds:List nK)(mu:List Nat)(dr:List (Nat×Nat×Nat))(b:Code)(Q:Exit->Fr->Store->Prop)(fr:Fr)(σ:Store):avc P n ds mu dr (.seq .skip b) Q fr σ=avc P n ds mu dr .skip (V9 (avc P n ds mu dr b) Q) fr σ:=Vg _ _ _ _ _ _ _ _ _ _ rfl
theorem Dp(P:nE)(n:Nat)(ds:List nK)(mu:List Nat)(dr:List (Nat×Nat×Nat))(c:nJ)(a b:Code)(Q:Exit->Fr->Store->Prop)(fr:Fr)(σ:Store):avc P n ds mu dr (.cond c a b) Q fr σ=U0 (fr.ev c) (avc P n ds mu dr a) (avc P n ds mu dr b) Q fr σ:=propext mG
theorem Gq(P:nE)(n:Nat)(ds:List nK)(mu:List Nat)(dr:List (Nat×Nat×Nat))(id:Nat)(a:Code)(Q:Exit->Fr->Store->Prop)(fr:Fr)(σ:Store):avc P n ds mu dr (.block id a) Q fr σ=avc P n ds mu dr a (Ua id Q) fr σ:=propext mG
theorem Dl(P:nE)(n:Nat)(ds:List nK)(mu:List Nat)(dr:List (Nat×Nat×Nat))(a:Code)(Q:Exit->Fr->Store->Prop)(fr:Fr)(σ:Store):avc P n ds mu dr (.loop a) Q fr σ=AWp P n ds (.loop a) Q fr σ:=propext mG
theorem Dn(P:nE)(n:Nat)(ds:List nK)(mu:List Nat)(dr:List (Nat×Nat×Nat))(id:Nat)(Q:Exit->Fr->Store->Prop)(fr:Fr)(σ:Store):avc P n ds mu dr (.exit id) Q fr σ=Q (.exit id) fr σ:=propext mG
theorem Bs(P:nE)(n:Nat)(ds:List nK)(mu:List Nat)(dr:List (Nat×Nat×Nat))(Q:Exit->Fr->Store->Prop)(fr:Fr)(σ:Store):avc P n ds mu dr .ret Q fr σ=Q .ret fr σ:=propext mG
theorem Xg(ops:nN nI)(fr:Fr)(A B:Fr->Prop):XV ops none fr A B=A fr:=propext mG
theorem CS(k:((Exit->Fr->Store->Prop)->Fr->Store->Prop))(Q:Exit->Fr->Store->Prop)(fr:Fr)(d:nM Nat)(v:AV)(σ:Store):kOp k Q fr d (.ret v) σ=k Q (fr.putO d v) σ:=propext mG
theorem CT(k:((Exit->Fr->Store->Prop)->Fr->Store->Prop))(Q:Exit->Fr->Store->Prop)(fr:Fr)(d:nM Nat)(v:nG)(σ:Store):kOp k Q fr d (.pan v) σ=Q (.panic [{ v:=v,recovered:=false }]) fr σ:=propext mG
theorem MU(k:((Exit->Fr->Store->Prop)->Fr->Store->Prop))(Q:Exit->Fr->Store->Prop)(fr:Fr)(σ:Store):V9 k Q .normal fr σ=k Q fr σ:=propext mG
theorem F4(k:((Exit->Fr->Store->Prop)->Fr->Store->Prop))(Q:Exit->Fr->Store->Prop)(fr:Fr)(σ:Store):V9 k Q .ret fr σ=Q .ret fr σ:=propext mG
theorem HB(k:((Exit->Fr->Store->Prop)->Fr->Store->Prop))(Q:Exit->Fr->Store->Prop)(i:Nat)(fr:Fr)(σ:Store):V9 k Q (.exit i) fr σ=Q (.exit i) fr σ:=propext mG
theorem KJ(k:((Exit->Fr->Store->Prop)->Fr->Store->Prop))(Q:Exit->Fr->Store->Prop)(c:List PanicEntry)(fr:Fr)(σ:Store):V9 k Q (.panic c) fr σ=Q (.panic c) fr σ:=propext mG
theorem PJ(id:Nat)(Q:Exit->Fr->Store->Prop)(fr:Fr)(σ:Store):Ua id Q .normal fr σ=Q .normal fr σ:=propext mG
theorem KQ(id:Nat)(Q:Exit->Fr->Store->Prop)(fr:Fr)(σ:Store):Ua id Q .ret fr σ=Q .ret fr σ:=propext mG
theorem M3(id:Nat)(Q:Exit->Fr->Store->Prop)(i:Nat)(fr:Fr)(σ:Store):Ua id Q (.exit i) fr σ=if i=id then Q .normal fr σ else Q (.exit i) fr σ:=propext mG
theorem Nn(id:Nat)(Q:Exit->Fr->Store->Prop)(c:List PanicEntry)(fr:Fr)(σ:Store):Ua id Q (.panic c) fr σ=Q (.panic c) fr σ:=propext mG
theorem Nm(P:nE)(rs:List ResultVar)(R:ZE->Store->Prop)(fr:Fr)(σ:Store):M2 P rs R .normal fr σ=Ts P rs fr σ fun l=>Tw R (dN l) σ:=propext mG
theorem HH(P:nE)(rs:List ResultVar)(R:ZE->Store->Prop)(fr:Fr)(σ:Store):M2 P rs R .ret fr σ=Ts P rs fr σ fun l=>Tw R (dN l) σ:=propext mG
theorem M1(P:nE)(rs:List ResultVar)(R:ZE->Store->Prop)(pv:nG)(fr:Fr)(σ:Store):M2 P rs R (.panic [{ v:=pv,recovered:=false }]) fr σ=JN R pv σ:=by
 simp only[M2,eq_iff_iff]
 exact rH
theorem JE(A B:((Exit->Fr->Store->Prop)->Fr->Store->Prop))(Q:Exit->Fr->Store->Prop)(fr:Fr)(σ:Store):U0 (.val (.bool true)) A B Q fr σ=A Q fr σ:=by simp[U0]
theorem LP(A B:((Exit->Fr->Store->Prop)->Fr->Store->Prop))(Q:Exit->Fr->Store->Prop)(fr:Fr)(σ:Store):U0 (.val (.bool false)) A B Q fr σ=B Q fr σ:=by simp[U0]
theorem GN(p:Prop)[Decidable p](A B:((Exit->Fr->Store->Prop)->Fr->Store->Prop))(Q:Exit->Fr->Store->Prop)(fr:Fr)(σ:Store):U0 (.val (.bool (decide p))) A B Q fr σ=((p->A Q fr σ)/\(¬ p->B Q fr σ)):=by simp[U0]
theorem JF(p:Prop)[Decidable p](A B:((Exit->Fr->Store->Prop)->Fr->Store->Prop))(Q:Exit->Fr->Store->Prop)(fr:Fr)(σ:Store):U0 (.val (.bool (!decide p))) A B Q fr σ=((¬ p->A Q fr σ)/\(p->B Q fr σ)):=by simp[U0]
theorem F5(K:ZE->Store->Prop)(σ:Store)(v:AV):Xa K σ v=K (.ret v) σ:=propext mG
theorem F3(K:ZE->Store->Prop)(σ:Store):KI K σ=K (.ret .any) σ:=propext mG
theorem CQ(K:ZE->Store->Prop)(v:AV)(σ:Store):kRs K v σ=K (.ret v) σ:=propext mG
theorem HA(k:((Exit->Fr->Store->Prop)->Fr->Store->Prop))(Q:Exit->Fr->Store->Prop)(σ:Store)(d:nM Nat)(fr:Fr):Ov k Q σ d fr=k Q (fr.putO d (.val undef)) σ:=propext mG
theorem Ec(P:nE)(mu:List Nat)(k:((Exit->Fr->Store->Prop)->Fr->Store->Prop))(Q:Exit->Fr->Store->Prop)(σ:Store)(d:Nat)(op:Op)(ty:nF)(pos:String)(af:nN Edge)(g:nM (Nat×Bool))(fr:Fr) :
 kDo P mu k Q σ ⟨some d,op,ty,pos,af,g⟩ fr=ZA P (mu.contains d) fr.ev σ (kOp k Q fr (some d)) op:=propext mG
theorem Ed(P:nE)(mu:List Nat)(k:((Exit->Fr->Store->Prop)->Fr->Store->Prop))(Q:Exit->Fr->Store->Prop)(σ:Store)(op:Op)(ty:nF)(pos:String)(af:nN Edge)(g:nM (Nat×Bool))(fr:Fr) :
 kDo P mu k Q σ ⟨none,op,ty,pos,af,g⟩ fr=ZA P false fr.ev σ (kOp k Q fr none) op:=propext mG
theorem DI(P:nE)(mu:List Nat)(ops:nN nI)(Q:Exit->Fr->Store->Prop)(fr:Fr)(σ:Store):XU P mu ops [] Q fr σ=Q .normal fr σ:=propext mG
theorem DH(P:nE)(mu:List Nat)(ops:nN nI)(r:List nI)(Q:Exit->Fr->Store->Prop)(d:nM Nat)(op:Op)(ty:nF)(pos:String)(af:nN Edge)(fr:Fr)(σ:Store) :
 XU P mu ops (⟨d,op,ty,pos,af,none⟩::r) Q fr σ=kDo P mu (XU P mu ops r) Q σ ⟨d,op,ty,pos,af,none⟩ fr:=propext mG
theorem DJ(P:nE)(mu:List Nat)(ops:nN nI)(r:List nI)(Q:Exit->Fr->Store->Prop)(d:nM Nat)(op:Op)(ty:nF)(pos:String)(af:nN Edge)(g:Nat×Bool)(fr:Fr)(σ:Store) :
 XU P mu ops (⟨d,op,ty,pos,af,some g⟩::r) Q fr σ=XV ops (some g) fr (kDo P mu (XU P mu ops r) Q σ ⟨d,op,ty,pos,af,some g⟩) (Ov (XU P mu ops r) Q σ d):=propext mG
theorem DD(P:nE)(fr:Fr)(σ:Store)(K:List AV->Prop):Ts P [] fr σ K=K []:=propext mG
theorem DC(P:nE)(t:Nat)(r:List ResultVar)(fr:Fr)(σ:Store)(K:List AV->Prop):Ts P (.tmp t::r) fr σ K=Ts P r fr σ fun l=>K (fr t::l):=propext mG
theorem Gy(P:nE)(a T:Nat)(r:List ResultVar)(fr:Fr)(σ:Store)(K:List AV->Prop):Ts P (.cell a T::r) fr σ K=We P T (fr a) σ fun v=>Ts P r fr σ fun l=>K (v::l):=propext mG
theorem Hg(v:AV):dN [v]=v:=rfl
theorem Hh:dN []=.tup []:=rfl
theorem Hf(a b:AV)(l:List AV):dN (a::b::l)=.tup (a::b::l):=rfl
theorem Gl(k:IntKind)(n:Int):AV.cells (.val (.int k n))=some [.val (.int k n)]:=rfl
theorem Jh(b:Bool):AV.cells (.val (.bool b))=some [.val (.bool b)]:=rfl
theorem NQ(s:ByteArray):AV.cells (.val (.string s))=some [.val (.string s)]:=rfl
theorem Gj(p:nM Addr):AV.cells (.val (.pointer p))=some [.val (.pointer p)]:=rfl
theorem Gk(p:nM Nat):AV.cells (.val (.map p))=some [.val (.map p)]:=rfl
theorem Jg(f:Fn)(a b:nN nG):AV.cells (.val (.func f a b))=some [.val (.func f a b)]:=rfl
theorem PT:AV.cells (.val .nilFunc)=some [.val .nilFunc]:=rfl
theorem Lv(t:Nat)(v:nG):AV.cells (.val (.iface t v))=some [.val (.iface t v)]:=rfl
theorem Ph:AV.cells (.val .nilIface)=some [.val .nilIface]:=rfl
theorem Lu(a:nM Addr)(n c:Nat):AV.cells (.val (.slice a n c))=some [.val (.slice a n c)]:=rfl
theorem Jf(r:Rt)(s:Nat)(es:List (List AV)):AV.cells (.list r s es)=some [.list r s es]:=rfl
theorem E8(cs:List AV):AV.cells (.ro cs)=some [.ro cs]:=rfl
theorem Gm(cs:List AV):AV.cells (.agg cs)=some cs:=rfl
theorem Cy(k:IntKind)(n:Int):AV.one (.val (.int k n))=true:=rfl
theorem FI(b:Bool):AV.one (.val (.bool b))=true:=rfl
theorem Kx(s:ByteArray):AV.one (.val (.string s))=true:=rfl
theorem Cw(p:nM Addr):AV.one (.val (.pointer p))=true:=rfl
theorem Cx(p:nM Nat):AV.one (.val (.map p))=true:=rfl
theorem FH(f:Fn)(a b:nN nG):AV.one (.val (.func f a b))=true:=rfl
theorem MH:AV.one (.val .nilFunc)=true:=rfl
theorem He(t:Nat)(v:nG):AV.one (.val (.iface t v))=true:=rfl
theorem Nb:AV.one (.val .nilIface)=true:=rfl
theorem Hd(a:nM Addr)(n c:Nat):AV.one (.val (.slice a n c))=true:=rfl
theorem FG(r:Rt)(s:Nat)(es:List (List AV)):AV.one (.list r s es)=true:=rfl
theorem Av(cs:List AV):AV.one (.ro cs)=true:=rfl
def CL(d:Nat):List Nat->Bool
 | []=>false
 | x::r=>if d=x then true else CL d r
theorem PR(l:List Nat)(d:Nat):l.contains d=CL d l:=by
 induction l with
 | nil=>rfl
 | cons x r ih=>simp only[List.contains_cons,ih,CL];split<;>simp_all
theorem BR(cs:List AV)(σ:Store)(K:ZE->Store->Prop):Px true cs σ K=∀ b,Zm σ b->K (.ret (.val (.pointer (some ⟨b,0,none⟩)))) ((b,.cells cs)::σ):=propext mG
theorem BQ(cs:List AV)(σ:Store)(K:ZE->Store->Prop):Px false cs σ K=(cs.all AV.one=true/\K (.ret (.ro cs)) σ):=propext mG
theorem Ze(b:Nat)(x:AObj)(r:Store):Store.get ((b,x)::r) b=some x:=by simp[Store.get]
theorem Zc{b' b:Nat}(h:b'≠b)(x:AObj)(r:Store):Store.get ((b',x)::r) b=Store.get r b:=by simp only[Store.get];rw[ig h]
theorem Zg{b b':Nat}{r:Store}(h:Zm r b)(g:(Store.get r b').isSome=true)(x:AObj):Store.get ((b,x)::r) b'=Store.get r b' :=
 Zc (fun e=>by rw[<- e,Zj h] at g;cases g) x r
theorem Yo(b:Nat)(x y:AObj)(r:Store):Store.set ((b,x)::r) b y=(b,y)::r:=by simp[Store.set]
theorem Zo{b' b:Nat}(h:b'≠b)(x y:AObj)(r:Store):Store.set ((b',x)::r) b y=(b',x)::Store.set r b y:=by simp only[Store.set];rw[ig h]
theorem SU{b b':Nat}{r:Store}(h:Zm r b)(g:(Store.get r b').isSome=true)(x y:AObj):Store.set ((b,x)::r) b' y=(b,x)::Store.set r b' y :=
 Zo (fun e=>by rw[<- e,Zj h] at g;cases g) x y r
theorem EY(b':Nat)(x:AObj)(r:Store)(b:Nat):Store.del ((b',x)::r) b=if b'=b then r else(b',x)::Store.del r b:=rfl
def X9(x:AV)(want:Bool)(A B:Fr->Prop)(fr:Fr)(d:Nat):Prop :=
 match x with
 | .val (.bool x)=>(x=want->A (fr.put d (.val (.bool want))))/\(x=(!want)->B (fr.put d (.val (.bool (!want)))))
 | .val (.tuple ⟨[]⟩)=>B fr
 | _=>False
def gAt(s:nM Nat)(want:Bool)(A B:Fr->Prop)(fr:Fr):Prop :=
 match s with
 | some d=>X9 (fr d) want A B fr d
 | none=>False
theorem GH(ops:nN nI)(j:Nat)(want:Bool)(fr:Fr)(A B:Fr->Prop):XV ops (some (j,want)) fr A B=gAt ((ops[j]?).bind (·.dst)) want A B fr:=propext mG
theorem EH(d:Nat)(want:Bool)(A B:Fr->Prop)(fr:Fr):gAt (some d) want A B fr=X9 (fr d) want A B fr d:=propext mG
theorem Ld(want:Bool)(A B:Fr->Prop)(fr:Fr)(d:Nat):X9 (.val undef) want A B fr d=B fr:=propext mG
theorem Ez(A B:Fr->Prop)(fr:Fr)(d:Nat):X9 (.val (.bool true)) true A B fr d=A (fr.put d (.val (.bool true))):=by simp[X9]
theorem EE(A B:Fr->Prop)(fr:Fr)(d:Nat):X9 (.val (.bool false)) false A B fr d=A (fr.put d (.val (.bool false))):=by simp[X9]
theorem EA(A B:Fr->Prop)(fr:Fr)(d:Nat):X9 (.val (.bool true)) false A B fr d=B (fr.put d (.val (.bool true))):=by simp[X9]
theorem ED(A B:Fr->Prop)(fr:Fr)(d:Nat):X9 (.val (.bool false)) true A B fr d=B (fr.put d (.val (.bool false))):=by simp[X9]
theorem EF(p:Prop)[Decidable p](A B:Fr->Prop)(fr:Fr)(d:Nat):X9 (.val (.bool (decide p))) true A B fr d=((p->A (fr.put d (.val (.bool true))))/\(¬ p->B (fr.put d (.val (.bool false))))):=by simp[X9]
theorem EG(p:Prop)[Decidable p](A B:Fr->Prop)(fr:Fr)(d:Nat):X9 (.val (.bool (decide p))) false A B fr d=((¬ p->A (fr.put d (.val (.bool false))))/\(p->B (fr.put d (.val (.bool true))))):=by simp[X9]
theorem EB(p:Prop)[Decidable p](A B:Fr->Prop)(fr:Fr)(d:Nat):X9 (.val (.bool (!decide p))) true A B fr d=((¬ p->A (fr.put d (.val (.bool true))))/\(p->B (fr.put d (.val (.bool false))))):=by simp[X9]
theorem EC(p:Prop)[Decidable p](A B:Fr->Prop)(fr:Fr)(d:Nat):X9 (.val (.bool (!decide p))) false A B fr d=((p->A (fr.put d (.val (.bool false))))/\(¬ p->B (fr.put d (.val (.bool true))))):=by simp[X9]
def oK(o:nM AV)(K:AV->Prop):Prop :=
 match o with
 | some v=>K v
 | none=>False
theorem Id(v:AV)(K:AV->Prop):oK (some v) K=K v:=propext mG
def lK(P:nE)(T:nF)(o:Nat)(x:nM AObj)(K:AV->Prop):Prop :=
 match x with
 | some (.cells cs)=>oK (VU P T (cs.drop o)) K
 | _=>False
theorem F1(P:nE)(T:nF)(o:Nat)(cs:List AV)(K:AV->Prop):lK P T o (some (.cells cs)) K=oK (VU P T (cs.drop o)) K:=propext mG
theorem DM(P:nE)(T:nF)(cs:List AV)(σ:Store)(K:AV->Prop):We P T (.ro cs) σ K=oK (VU P T cs) K:=by unfold We oK;rfl
theorem GE(P:nE)(T:nF)(b o:Nat)(σ:Store)(K:AV->Prop):We P T (.val (.pointer (some ⟨b,o,none⟩))) σ K=lK P T o (σ.get b) K:=by
 simp only[We,lK];generalize σ.get b=q;cases q with
 | none=>rfl
 | some x=>cases x<;>first|rfl|(simp only[oK];rfl)
def stK(vs:nM (List AV))(n:nM Nat)(x:nM AObj)(b o:Nat)(σ:Store)(K:Store->Prop):Prop :=
 match vs,n,x with
 | some vs,some n,some (.cells cs)=>vs.length=n/\vs.all AV.one=true/\o+n<=cs.length/\K (σ.set b (.cells (Yn cs o vs)))
 | _,_,_=>False
theorem GY(vs:List AV)(n:Nat)(cs:List AV)(b o:Nat)(σ:Store)(K:Store->Prop):stK (some vs) (some n) (some (.cells cs)) b o σ K=(vs.length=n/\vs.all AV.one=true/\o+n<=cs.length/\K (σ.set b (.cells (Yn cs o vs)))):=propext mG
theorem Jl(P:nE)(T:nF)(b o:Nat)(v:AV)(σ:Store)(K:Store->Prop):UV P T (.val (.pointer (some ⟨b,o,none⟩))) v σ K=stK v.cells (ZB P T) (σ.get b) b o σ K:=by
 unfold UV stK;generalize v.cells=p;generalize ZB P T=q
 exact sG
def fKr(cs:List AV)(o:nM Nat)(K:AV->Prop):Prop:=match o with|some off=>K (.ro (cs.drop off))|none=>False
theorem EN(cs:List AV)(off:Nat)(K:AV->Prop):fKr cs (some off) K=K (.ro (cs.drop off)):=propext mG
def fKp(b o:Nat)(x:nM Nat)(K:AV->Prop):Prop:=match x with|some off=>K (.val (.pointer (some ⟨b,o+off,none⟩)))|none=>False
theorem EO(b o off:Nat)(K:AV->Prop):fKp b o (some off) K=K (.val (.pointer (some ⟨b,o+off,none⟩))):=propext mG
theorem GJ(P:nE)(s:nF)(cs:List AV)(f:Nat)(K:AV->Prop):WM P s (.ro cs) f K=fKr cs (ZG P s f) K:=by unfold WM fKr;cases ZG P s f<;>rfl
theorem JA(P:nE)(s:nF)(b o:Nat)(f:Nat)(K:AV->Prop):WM P s (.val (.pointer (some ⟨b,o,none⟩))) f K=fKp b o (ZG P s f) K:=by unfold WM fKp;cases ZG P s f<;>rfl
def ixL(P:nE)(s:Nat)(es:List (List AV))(n:Int)(e:nM nF)(K:AV->Prop):Prop :=
 match e with
 | some e=>ZB P e=some s/\0<=n/\n<es.length/\∀ c,es[n.toNat]?=some c->K (.ro c)
 | none=>False
theorem Eh(P:nE)(s:Nat)(es:List (List AV))(n:Int)(e:nF)(K:AV->Prop):ixL P s es n (some e) K=(ZB P e=some s/\0<=n/\n<es.length/\∀ c,es[n.toNat]?=some c->K (.ro c)):=propext mG
theorem R4(P:nE)(t:nF)(r:Rt)(s:Nat)(es:List (List AV))(k:IntKind)(n:Int)(K:AV->Prop):Ya P t (.list r s es) (.val (.int k n)) K=ixL P s es n (Yf P t) K:=by
 unfold Ya ixL;cases Yf P t<;>rfl
def ixS(b o len:Nat)(n:Int)(s:nM Nat)(K:AV->Prop):Prop :=
 match s with
 | some s=>0<=n/\n<len/\K (.val (.pointer (some ⟨b,o+n.toNat * s,none⟩)))
 | none=>False
theorem M4(b o len:Nat)(n:Int)(s:Nat)(K:AV->Prop):ixS b o len n (some s) K=(0<=n/\n<len/\K (.val (.pointer (some ⟨b,o+n.toNat * s,none⟩)))):=propext mG
theorem VW(P:nE)(t:nF)(b o len c:Nat)(k:IntKind)(n:Int)(K:AV->Prop):Ya P t (.val (.slice (some ⟨b,o,none⟩) len c)) (.val (.int k n)) K=ixS b o len n ((Yf P t).bind (ZB P)) K:=by
 unfold Ya ixS;cases Yf P t with
 | none=>rfl
 | some e=>simp only[jk];cases ZB P e<;>rfl
def ixR(cs:List AV)(len:Nat)(n:Int)(s:nM Nat)(K:AV->Prop):Prop :=
 match s with
 | some s=>0<=n/\n<len/\K (.ro (cs.drop (n.toNat * s)))
 | none=>False
theorem Jy(P:nE)(t:nF)(s:ByteArray)(k:IntKind)(n:Int)(K:AV->Prop)(hu:P.underlying t=some .string):Vj P t (.val (.string s)) (.val (.int k n)) K=(0<=n/\n<s.size/\K (.val (.int .u8 (bAt s n.toNat)))):=by
 unfold Vj;rw[hu]
theorem Z5(P:nE)(op:BinOp)(T:nF)(x y v:AV)(yc:nJ)(K:AV->Prop)(h:XQ P op T x y (opC yc)=some v):Y1 P op T x y yc K=K v:=by
 unfold Y1;rw[h]
theorem aY(P:nE)(T:nF)(k:IntKind)(a b:Int)(yc:nJ)(K:AV->Prop):Y1 P .add T (.val (.int k a)) (.val (.int k b)) yc K=K (.val (.int k (k.wrap (a+b)))):=Z5 _ _ _ _ _ _ _ _ xq
theorem aL(P:nE)(T:nF)(k:IntKind)(a b:Int)(yc:nJ)(K:AV->Prop):Y1 P .sub T (.val (.int k a)) (.val (.int k b)) yc K=K (.val (.int k (k.wrap (a-b)))):=Z5 _ _ _ _ _ _ _ _ xq
theorem aP(P:nE)(T:nF)(k:IntKind)(a b:Int)(yc:nJ)(K:AV->Prop):Y1 P .lss T (.val (.int k a)) (.val (.int k b)) yc K=K (.val (.bool (decide (a<b)))):=Z5 _ _ _ _ _ _ _ _ xq
theorem aQ(P:nE)(T:nF)(k:IntKind)(a b:Int)(yc:nJ)(K:AV->Prop):Y1 P .leq T (.val (.int k a)) (.val (.int k b)) yc K=K (.val (.bool (decide (a<=b)))):=Z5 _ _ _ _ _ _ _ _ xq
theorem aR(P:nE)(T:nF)(k:IntKind)(a b:Int)(yc:nJ)(K:AV->Prop):Y1 P .gtr T (.val (.int k a)) (.val (.int k b)) yc K=K (.val (.bool (decide (b<a)))):=Z5 _ _ _ _ _ _ _ _ xq
theorem aS(P:nE)(T:nF)(k:IntKind)(a b:Int)(yc:nJ)(K:AV->Prop):Y1 P .geq T (.val (.int k a)) (.val (.int k b)) yc K=K (.val (.bool (decide (b<=a)))):=Z5 _ _ _ _ _ _ _ _ xq
theorem aU(P:nE)(T:nF)(k:IntKind)(a b:Int)(yc:nJ)(K:AV->Prop):Y1 P .eql T (.val (.int k a)) (.val (.int k b)) yc K=K (.val (.bool (decide (a=b)))):=Z5 _ _ _ _ _ _ _ _ xq
theorem aO(P:nE)(T:nF)(k:IntKind)(a b:Int)(yc:nJ)(K:AV->Prop):Y1 P .neq T (.val (.int k a)) (.val (.int k b)) yc K=K (.val (.bool (!decide (a=b)))):=Z5 _ _ _ _ _ _ _ _ xq
theorem aN(P:nE)(T:nF)(a b:ByteArray)(yc:nJ)(K:AV->Prop):Y1 P .eql T (.val (.string a)) (.val (.string b)) yc K=K (.val (.bool (decide (a=b)))):=Z5 _ _ _ _ _ _ _ _ xq
theorem aM(P:nE)(T:nF)(a b:ByteArray)(yc:nJ)(K:AV->Prop):Y1 P .neq T (.val (.string a)) (.val (.string b)) yc K=K (.val (.bool (!decide (a=b)))):=Z5 _ _ _ _ _ _ _ _ xq
theorem aW(P:nE)(T:nF)(a b:Bool)(yc:nJ)(K:AV->Prop)(h:P.underlying T=some .bool):Y1 P .eql T (.val (.bool a)) (.val (.bool b)) yc K=K (.val (.bool (decide (a=b)))):=Z5 _ _ _ _ _ _ _ _ xU
theorem aV(P:nE)(T:nF)(a b:Bool)(yc:nJ)(K:AV->Prop)(h:P.underlying T=some .bool):Y1 P .neq T (.val (.bool a)) (.val (.bool b)) yc K=K (.val (.bool (!decide (a=b)))):=Z5 _ _ _ _ _ _ _ _ xU
theorem DZ(P:nE)(T:nF)(c:nG)(K:AV->Prop)(h:Z7 (P.underlying T)=true):Y1 P .neq T (.val .nilIface) (.val .nilIface) (.const c) K=K (.val (.bool false)):=Z5 _ _ _ _ _ _ _ _ xU
theorem D0(P:nE)(T:nF)(c:nG)(K:AV->Prop)(h:Z7 (P.underlying T)=true):Y1 P .eql T (.val .nilIface) (.val .nilIface) (.const c) K=K (.val (.bool true)):=Z5 _ _ _ _ _ _ _ _ xU
theorem BS(P:nE)(T t:nF)(v:nG)(yc:nJ)(K:AV->Prop)(h:Z7 (P.underlying T)=true):Y1 P .neq T (.val (.iface t v)) (.val .nilIface) yc K=K (.val (.bool true)):=Z5 _ _ _ _ _ _ _ _ xU
theorem BU(P:nE)(T:nF)(yc:nJ)(K:AV->Prop)(h:Uc (P.underlying T)=true):Y1 P .neq T (.val .nilFunc) (.val .nilFunc) yc K=K (.val (.bool false)):=Z5 _ _ _ _ _ _ _ _ xU
theorem aT(P:nE)(T:nF)(f:Fn)(x y:nN nG)(yc:nJ)(K:AV->Prop)(h:Uc (P.underlying T)=true):Y1 P .neq T (.val (.func f x y)) (.val .nilFunc) yc K=K (.val (.bool true)):=Z5 _ _ _ _ _ _ _ _ xU
theorem BT(P:nE)(T t:nF)(v:nG)(yc:nJ)(K:AV->Prop)(h:Z7 (P.underlying T)=true):Y1 P .eql T (.val (.iface t v)) (.val .nilIface) yc K=K (.val (.bool false)):=Z5 _ _ _ _ _ _ _ _ xU
def eqK(o:nM Bool)(F:Prop)(K:AV->Prop):Prop:=match o with|some b=>K (.val (.bool b))|none=>F
theorem ER(b:Bool)(F:Prop)(K:AV->Prop):eqK (some b) F K=K (.val (.bool b)):=propext mG
def bY:nM Bool->nM Bool->nM Bool
 | some x,some y=>some (x&&y)
 | _,_=>none
theorem GA(x y:Bool):bY (some x) (some y)=some (x&&y):=rfl
theorem Jz(l:List Nat)(xs ys:List AV):Pq (some l) xs ys=UD l xs ys:=rfl
theorem DR:UD [] [] []=some true:=rfl
theorem GI(k:Nat)(l:List Nat)(a b:AV)(r s:List AV):UD (k::l) (a::r) (b::s)=bY (Ui k a b) (UD l r s):=by
 simp only[UD]
 cases Ui k a b<;>cases UD l r s<;>rfl
theorem Ji(k:IntKind)(x y:Int):Ui 0 (.val (.int k x)) (.val (.int k y))=some (decide (x=y)):=by simp[Ui]
theorem Lw(x y:Bool):Ui 1 (.val (.bool x)) (.val (.bool y))=some (decide (x=y)):=rfl
theorem PU(x y:ByteArray):Ui 2 (.val (.string x)) (.val (.string y))=some (decide (x=y)):=rfl
def nB:nM Bool->nM Bool
 | some b=>some (!b)
 | none=>none
theorem CJ(b:Bool):nB (some b)=some (!b):=rfl
def abF(P:nE)(op:BinOp)(T:nF)(xs ys:List AV)(yc:nJ)(K:AV->Prop):Prop:=Y1 P op T (.agg xs) (.agg ys) yc K
theorem aX(P:nE)(T:nF)(xs ys:List AV)(yc:nJ)(K:AV->Prop):Y1 P .eql T (.agg xs) (.agg ys) yc K=eqK (Pq (eqT P T) xs ys) (abF P .eql T xs ys yc K) K:=by
 cases h:Pq (eqT P T) xs ys with
 | none=>rfl
 | some b=>unfold Y1;simp only[XQ,h];rfl
attribute [go_sem] ER GA Jz DR GI Ji Lw PU CJ aX
theorem Bt(b:Bool)(K:AV->Prop):aun .not (.val (.bool b)) K=K (.val (.bool (!b))):=propext mG
def ifK(T:nF)(o:nM nG)(K:AV->Prop):Prop:=match o with|some v=>K (.val (.iface T v))|none=>False
theorem Ep(T:nF)(v:nG)(K:AV->Prop):ifK T (some v) K=K (.val (.iface T v)):=propext mG
theorem GG(P:nE)(T:nF)(x:AV)(K:AV->Prop):UY P T x K=((P.underlying T).isSome=true/\Z7 (P.underlying T)=false/\ifK T x.toVal K):=by
 unfold UY ifK;cases x.toVal<;>rfl
theorem LS(P:nE)(T:nF)(v:nG)(K:AV->Prop):SG P (.val (.iface T v)) T true K=((P.underlying T).isSome=true/\Z7 (P.underlying T)=false/\K (.tup [dL v,.val (.bool true)])):=by
 unfold SG;simp
theorem N5(vs:List AV)(i:Nat)(K:AV->Prop):XP (.tup vs) i K=oK (vs[i]?) K:=by unfold XP oK;rfl
def bdK(P:nE)(t:nF)(z:nM nG)(pl:nM (List (Nat×Nat)))(ps:List (Nat×AV))(K:AV->Prop):Prop :=
 match z,pl with
 | some z,some pl=>oK ((Uw (fun i=>pl[i]?) (YE z) ps).map .agg) K
 | _,_=>False
theorem Dh(P:nE)(t:nF)(z:nG)(pl:List (Nat×Nat))(ps:List (Nat×AV))(K:AV->Prop):bdK P t (some z) (some pl) ps K=oK ((Uw (fun i=>pl[i]?) (YE z) ps).map .agg) K:=propext mG
theorem GO(P:nE)(t:nF)(ps:List (Nat×AV))(K:AV->Prop):VD P t ps K=bdK P t (Zy P t) (Ys P t) ps K:=by
 unfold VD bdK oK
 cases Zy P t with
 | none=>rfl
 | some z=>cases Ys P t with
   | none=>rfl
   | some pl=>simp only;cases Uw (fun i=>pl[i]?) (YE z) ps<;>rfl
def bsK(es:nM (List (List AV)))(s:Nat)(K:AV->Prop):Prop :=
 match es with
 | some es=>es.all (fun e=>e.all AV.one)=true/\K (.list .full s es)
 | none=>False
theorem De(es:List (List AV))(s:Nat)(K:AV->Prop):bsK (some es) s K=(es.all (fun e=>e.all AV.one)=true/\K (.list .full s es)):=propext mG
def cuL(P:nE)(r:Rt)(s:Nat)(es:List (List AV))(e:Nat)(hi:nM AV)(l h:nM Int)(K:AV->Prop):Prop :=
 match l,h with
 | some l,some h=>ZB P e=some s/\0<=l/\l<=h/\h<=es.length/\K (.list (WF hi r) s ((es.drop l.toNat).take (h.toNat-l.toNat)))
 | _,_=>False
theorem E1(P:nE)(r:Rt)(s:Nat)(es:List (List AV))(e:Nat)(hi:nM AV)(l h:Int)(K:AV->Prop):cuL P r s es e hi (some l) (some h) K=(ZB P e=some s/\0<=l/\l<=h/\h<=es.length/\K (.list (WF hi r) s ((es.drop l.toNat).take (h.toNat-l.toNat)))):=propext mG
theorem KZ(d:Int):XL none d=some d:=rfl
theorem KY(k:IntKind)(n d:Int):XL (some (.val (.int k n))) d=some n:=rfl
theorem BG(k k':IntKind)(x y:Int)(K:AV->Prop):amm true [.val (.int k x),.val (.int k' y)] K=K (.val (.int k (max x y))):=propext mG
theorem DL(a:Addr)(K:AV->Prop):PX (.val (.pointer (some a))) K=K (.val (.pointer (some a))):=propext mG
theorem BE(cs:List AV)(K:AV->Prop):PX (.ro cs) K=K (.ro cs):=propext mG
theorem JH(P:nE)(sT xT:Nat)(s x:AV)(σ:Store)(K:ZE->Store->Prop):XG P .append ⟨[sT,xT]⟩ [s,x] σ K=Tk P sT xT s x σ (kRs K):=propext mG
theorem BP(P:nE)(t:Nat)(x:AV)(σ:Store)(K:ZE->Store->Prop):XG P .len ⟨[t]⟩ [x] σ K=VC P t x σ (Xa K σ):=propext mG
theorem BO(P:nE)(ts:nN nF)(xs:List AV)(σ:Store)(K:ZE->Store->Prop):XG P .max ts xs σ K=amm true xs (Xa K σ):=by
 unfold XG;split<;>simp_all
section
variable (P:nE) (mu:Bool) (ev:nJ->AV) (σ:Store) (K:ZE->Store->Prop)
def pkK(c a b:AV)(K:AV->Prop):Prop:=match c with|.val (.bool x)=>K (if x then a else b)|_=>False
theorem FD(a b:AV)(K:AV->Prop):pkK (.val (.bool true)) a b K=K a:=propext mG
theorem Hb(a b:AV)(K:AV->Prop):pkK (.val (.bool false)) a b K=K b:=propext mG
def alK(z:nM nG)(σ:Store)(K:ZE->Store->Prop):Prop:=match z with|some z=>Px true (YE z) σ K|none=>False
theorem DP(z:nG):alK (some z) σ K=Px true (YE z) σ K:=propext mG
def bxK(cs:nM (List AV))(mu:Bool)(σ:Store)(K:ZE->Store->Prop):Prop:=match cs with|some cs=>Px mu cs σ K|none=>False
theorem Db(cs:List AV):bxK (some cs) mu σ K=Px mu cs σ K:=propext mG
def mfK(fn:Fn)(f c:nM (List nG))(K:AV->Prop):Prop:=match f,c with|some f,some c=>K (.val (.func fn f.toArray c.toArray))|_,_=>False
theorem FM(fn:Fn)(f c:List nG)(K:AV->Prop):mfK fn (some f) (some c) K=K (.val (.func fn ⟨f⟩ ⟨c⟩)):=propext mG
def pnK(x:AV)(σ:Store)(K:ZE->Store->Prop):Prop:=match x with|.val (.iface t v)=>K (.pan (.iface t v)) σ|_=>False
theorem I9(t:nF)(v:nG):pnK (.val (.iface t v)) σ K=K (.pan (.iface t v)) σ:=propext mG
theorem Bx(x:nJ):ZA P mu ev σ K (.move x)=K (.ret (ev x)) σ:=propext mG
theorem Gx(x:nJ):ZA P mu ev σ K (.assign x)=K (.ret (ev x)) σ:=propext mG
theorem Bv(c a b:nJ):ZA P mu ev σ K (.pick c a b)=pkK (ev c) (ev a) (ev b) (Xa K σ):=propext mG
theorem DA(T:nF):ZA P mu ev σ K (.alloc T)=alK (Zy P T) σ K:=propext mG
theorem aD(T:nF)(x:nJ):ZA P mu ev σ K (.box T x)=bxK (ev x).cells mu σ K:=propext mG
theorem Dy(t:nF)(ps:List (Nat×nJ)):ZA P mu ev σ K (.build t ⟨ps⟩)=VD P t (ps.map fun p=>(p.1,ev p.2)) (Xa K σ):=propext mG
theorem PW(t:nF)(n:Nat)(ps:List (Nat×nJ)):ZA P mu ev σ K (.buildSlice t n ⟨ps⟩)=YH P t n (ps.map fun p=>(p.1,ev p.2)) (Xa K σ):=propext mG
theorem Bz(T:nF)(x:nJ):ZA P mu ev σ K (.load T x)=We P T (ev x) σ (Xa K σ):=propext mG
theorem Ds(T:nF)(x y:nJ):ZA P mu ev σ K (.store T x y)=UV P T (ev x) (ev y) σ (KI K):=propext mG
theorem LD(x:nJ):ZA P mu ev σ K (.nilCheck x)=PX (ev x) (Xa K σ):=propext mG
theorem Dz(op:BinOp)(T T':nF)(x y:nJ):ZA P mu ev σ K (.binOp op T x y T')=Y1 P op T (ev x) (ev y) y (Xa K σ):=propext mG
theorem Bu(op:UnOp)(T:nF)(x:nJ):ZA P mu ev σ K (.unOp op T x)=aun op (ev x) (Xa K σ):=propext mG
theorem Rs(T:nF)(x:nJ):ZA P mu ev σ K (.makeInterface T x)=UY P T (ev x) (Xa K σ):=propext mG
theorem LE(fn:Fn)(f c:List nJ):ZA P mu ev σ K (.makeFunc fn ⟨f⟩ ⟨c⟩)=mfK fn (dK (f.map ev)) (dK (c.map ev)) (Xa K σ):=propext mG
theorem NV(t:nF)(n c:nJ):ZA P mu ev σ K (.makeSlice t n c)=Wr P mu t (ev n) (ev c) σ K:=propext mG
theorem Dt(t:nF)(x:nJ)(lo hi mx:nM nJ):ZA P mu ev σ K (.slice t x lo hi mx)=Tt P t (ev x) (lo.map ev) (hi.map ev) (mx.map ev) (Xa K σ):=propext mG
theorem NX(s:nF)(x:nJ)(f:Nat):ZA P mu ev σ K (.fieldAddr s x f)=WM P s (ev x) f (Xa K σ):=propext mG
theorem NW(t:nF)(x i:nJ):ZA P mu ev σ K (.indexAddr t x i)=Ya P t (ev x) (ev i) (Xa K σ):=propext mG
theorem Dw(t:nF)(x i:nJ):ZA P mu ev σ K (.index t x i)=Vj P t (ev x) (ev i) (Xa K σ):=propext mG
theorem Jo(x:nJ)(i:Nat):ZA P mu ev σ K (.extract x i)=XP (ev x) i (Xa K σ):=propext mG
theorem PV(x:nJ)(t T:nF)(ok:Bool):ZA P mu ev σ K (.typeAssert x t T ok)=SG P (ev x) T ok (Xa K σ):=propext mG
theorem Dv(x:nJ):ZA P mu ev σ K (.panic x)=pnK (ev x) σ K:=propext mG
theorem BA(f:nJ)(args:List nJ)(ts:nN nF):ZA P mu ev σ K (.call ⟨.value f,⟨args⟩,ts⟩)=ZH P (ev f) (args.map ev) σ K:=propext mG
theorem Jp(b:Builtin)(args:List nJ)(ts:nN nF):ZA P false ev σ K (.call ⟨.builtin b,⟨args⟩,ts⟩)=XG P b ts (args.map ev) σ K:=propext mG
theorem BB(s x:nJ)(sT xT:nF):ZA P true ev σ K (.call ⟨.builtin .append,⟨[s,x]⟩,⟨[sT,xT]⟩⟩)=TJ P sT xT (ev s) (ev x) σ (kRs K):=propext mG
theorem Jn(t:nF):ZA P mu ev σ K (.makeMap t none)=SD σ K:=propext mG
theorem NU(t:nF)(m k v:nJ):ZA P mu ev σ K (.mapUpdate t m k v)=Um P t (ev m) (ev k) (ev v) σ (KI K):=propext mG
theorem Gw(t:nF)(m k v:nJ):ZA P mu ev σ K (.insert t m k v)=Um P t (ev m) (ev k) (ev v) σ (KI K):=propext mG
theorem Gv(t:nF)(m k:nJ)(ok:Bool):ZA P mu ev σ K (.lookup t m k ok)=UX P t (ev m) (ev k) ok σ (Xa K σ):=propext mG
theorem Du(t:nF)(m:nJ):ZA P mu ev σ K (.range t m)=NZ P t (ev m) σ K:=propext mG
theorem Bw(it:nJ):ZA P mu ev σ K (.next it false)=IF (ev it) σ K:=propext mG
theorem Dx(it:nJ):ZA P mu ev σ K (.entry it)=N7 (ev it) σ (Xa K σ):=propext mG
theorem N1(σ:Store)(K:ZE->Store->Prop):SD σ K=∀ b,Zm σ b->K (.ret (.val (.map (some b)))) ((b,.map [] 0)::σ):=propext mG
end
theorem Z4(P:nE)(g:nL)(l:List nG)(args:List AV)(σ:Store)(K:ZE->Store->Prop):ZH P (.val (.func (.func g) ⟨[]⟩ ⟨l⟩)) args σ K=Zh P g (args++l.map .val) σ K:=by
 apply propext
 constructor
 ·rintro(⟨g',f,c,e,h⟩|⟨l',tv,e,_⟩)
  ·injection e with e
   injection e with e1 e2 e3
   injection e1 with e1
   subst e1;subst e2;subst e3
   simpa using h
  ·injection e with e
   injection e with e1
   cases e1
 ·intro h;exact .inl ⟨g,⟨[]⟩,⟨l⟩,rfl,by simpa using h⟩
theorem HQ(P:nE)(l:Nat)(tv:AV)(σ:Store)(K:ZE->Store->Prop):ZH P (.val (.func (.yield l) ⟨[]⟩ ⟨[]⟩)) [tv] σ K=WN P l tv σ K:=by
 apply propext
 constructor
 ·rintro(⟨g',f,c,e,h⟩|⟨l',tv',e,e2,h⟩)
  ·injection e with e
   injection e with e1
   cases e1
  ·injection e with e
   injection e with e1
   injection e1 with e1
   subst e1
   injection e2 with e2
   subst e2
   exact h
 ·intro h;exact .inr ⟨l,tv,rfl,rfl,h⟩
def ixA(P:nE)(x:AV)(n:Int)(d:nM TypeDesc)(K:AV->Prop):Prop :=
 match d,x with
 | some (.array len e),.val (.pointer (some ⟨b,o,none⟩))=>ixS b o len n (ZB P e) K
 | some (.array len e),.ro cs=>ixR cs len n (ZB P e) K
 | _,_=>False
theorem CY(P:nE)(b o:Nat)(n:Int)(len e:Nat)(K:AV->Prop):ixA P (.val (.pointer (some ⟨b,o,none⟩))) n (some (.array len e)) K=ixS b o len n (ZB P e) K:=propext mG
theorem PY(P:nE)(t:nF)(b o:Nat)(k:IntKind)(n:Int)(K:AV->Prop)(h:Yf P t=none):Ya P t (.val (.pointer (some ⟨b,o,none⟩))) (.val (.int k n)) K=ixA P (.val (.pointer (some ⟨b,o,none⟩))) n (P.underlying t) K:=by
 unfold Ya ixA ixS;rw[h];simp only;generalize P.underlying t=d
 cases d with
 | none=>rfl
 | some d=>cases d<;>rfl
def bsZ(s:nM Nat)(z:nM nG)(len:Nat)(ps:List (Nat×AV))(K:AV->Prop):Prop :=
 match s,z with
 | some s,some z=>0<s/\ps.map (·.1)=List.range len/\len * s<=16777216/\z.cells.size=s/\bsK (XE s (ps.map (·.2))) s K
 | _,_=>False
theorem Dd(s:Nat)(z:nG)(len:Nat)(ps:List (Nat×AV))(K:AV->Prop):bsZ (some s) (some z) len ps K=(0<s/\ps.map (·.1)=List.range len/\len * s<=16777216/\z.cells.size=s/\bsK (XE s (ps.map (·.2))) s K):=propext mG
def bsE(P:nE)(e:nM nF)(len:Nat)(ps:List (Nat×AV))(K:AV->Prop):Prop :=
 match e with
 | some e=>bsZ (ZB P e) (Zy P e) len ps K
 | none=>False
theorem Df(P:nE)(e:nF)(len:Nat)(ps:List (Nat×AV))(K:AV->Prop):bsE P (some e) len ps K=bsZ (ZB P e) (Zy P e) len ps K:=propext mG
theorem Pv(P:nE)(t len:Nat)(ps:List (Nat×AV))(K:AV->Prop):YH P t len ps K=bsE P (Yf P t) len ps K:=by
 unfold YH bsE bsZ bsK;cases Yf P t with
 | none=>rfl
 | some e =>
   simp only;generalize ZB P e=a;generalize Zy P e=b
   cases a<;>cases b<;>try rfl
def apZ(sz:nM Nat)(z:nM nG)(by_:nM Nat)(s x:AV)(σ:Store)(K:AV->Store->Prop):Prop :=
 match sz,z,by_,s,x with
 | some sz,some z,some by_,.list r s1 es,.list _ s2 ys=>z.cells.size=sz/\by_<=512/\es.length+ys.length<=lim/\(s1=sz\/es=[])/\(s2=sz\/ys=[]) /\
  match r with
  | .full=>(ys=[]->K (.list .full s1 es) σ)/\(ys≠[]->∀ b e c,Zm σ b->K (.list (.tip b e c) sz (es++ys)) ((b,.tail e c)::σ))
  | .tip b0 e0 c0=>σ.get b0=some (.tail e0 c0)/\s1=sz/\∀ b e c,Zm (σ.del b0) b->K (.list (.tip b e c) sz (es++ys)) ((b,.tail e c)::σ.del b0)
  | .none=>ys=[]/\K (.list .none s1 es) σ
 | _,_,_,_,_=>False
def apE(P:nE)(e q:nM nF)(s x:AV)(σ:Store)(K:AV->Store->Prop):Prop :=
 match e,q with
 | some e,some _=>apZ (ZB P e) (Zy P e) (ZY P e) s x σ K
 | _,_=>False
theorem DG(P:nE)(e q:nF)(s x:AV)(σ:Store)(K:AV->Store->Prop):apE P (some e) (some q) s x σ K=apZ (ZB P e) (Zy P e) (ZY P e) s x σ K:=propext mG
theorem DF(sz:Nat)(z:nG)(by_ s1 s2:Nat)(es ys:List (List AV))(r2:Rt)(σ:Store)(K:AV->Store->Prop):apZ (some sz) (some z) (some by_) (.list .full s1 es) (.list r2 s2 ys) σ K =
 (z.cells.size=sz/\by_<=512/\es.length+ys.length<=lim/\(s1=sz\/es=[])/\(s2=sz\/ys=[])/\(ys=[]->K (.list .full s1 es) σ)/\(ys≠[]->∀ b e c,Zm σ b->K (.list (.tip b e c) sz (es++ys)) ((b,.tail e c)::σ))):=propext mG
theorem BD(sz:Nat)(z:nG)(by_ s1 s2 b0 e0 c0:Nat)(es ys:List (List AV))(r2:Rt)(σ:Store)(K:AV->Store->Prop):apZ (some sz) (some z) (some by_) (.list (.tip b0 e0 c0) s1 es) (.list r2 s2 ys) σ K =
 (z.cells.size=sz/\by_<=512/\es.length+ys.length<=lim/\(s1=sz\/es=[])/\(s2=sz\/ys=[])/\σ.get b0=some (.tail e0 c0)/\s1=sz/\∀ b e c,Zm (σ.del b0) b->K (.list (.tip b e c) sz (es++ys)) ((b,.tail e c)::σ.del b0)):=propext mG
theorem JJ(P:nE)(sT xT:nF)(s x:AV)(σ:Store)(K:AV->Store->Prop):Tk P sT xT s x σ K=apE P (Yf P sT) (Yf P xT) s x σ K:=by
 unfold Tk apE
 generalize Yf P sT=a;generalize Yf P xT=q
 cases a with
 | none=>cases q<;>cases s<;>cases x<;>rfl
 | some e =>
   cases q with
   | none =>
     cases s<;>cases x<;>try rfl
     simp only;generalize ZB P e=i;generalize Zy P e=j;generalize ZY P e=k
     cases i<;>cases j<;>cases k<;>try rfl
     simp
   | some q =>
     cases s<;>cases x<;>simp only<;>generalize ZB P e=i<;>generalize Zy P e=j<;>generalize ZY P e=k<;>cases i<;>cases j<;>cases k<;>try rfl
     rename_i r s1 es r2 s2 ys sz z by_
     simp only[mH,jt,apZ]
     cases r<;>rfl
def lnL(d:nM TypeDesc)(m:Nat)(K:AV->Prop):Prop :=
 match d with
 | some (.slice _)=>K (.val (.int .i64 m))
 | some (.array n _)=>K (.val (.int .i64 n))
 | _=>False
theorem Rg(e m:Nat)(K:AV->Prop):lnL (some (.slice e)) m K=K (.val (.int .i64 m)):=propext mG
theorem VV(P:nE)(t:Nat)(r:Rt)(s:Nat)(es:List (List AV))(σ:Store)(K:AV->Prop):VC P t (.list r s es) σ K=lnL (P.underlying t) es.length K:=by
 exact tc
theorem TZ(P:nE)(t:Nat)(a:nM Addr)(n c:Nat)(σ:Store)(K:AV->Prop):VC P t (.val (.slice a n c)) σ K=lnL (P.underlying t) n K:=by
 exact tc
theorem DO(P:nE)(t:Nat)(s:ByteArray)(σ:Store)(K:AV->Prop)(h:P.underlying t=some .string):VC P t (.val (.string s)) σ K=K (.val (.int .i64 s.size)):=by
 unfold VC;simp only[h]
def cuS(s:ByteArray)(l h:nM Int)(K:AV->Prop):Prop :=
 match l,h with
 | some l,some h=>0<=l/\l<=h/\h<=s.size/\K (.val (.string (s.extract l.toNat h.toNat)))
 | _,_=>False
theorem EZ(s:ByteArray)(l h:Int)(K:AV->Prop):cuS s (some l) (some h) K=(0<=l/\l<=h/\h<=s.size/\K (.val (.string (s.extract l.toNat h.toNat)))):=propext mG
theorem DX(P:nE)(t:Nat)(s:ByteArray)(lo hi:nM AV)(K:AV->Prop)(hu:P.underlying t=some .string):Tt P t (.val (.string s)) lo hi none K=cuS s (XL lo 0) (XL hi s.size) K:=by
 unfold Tt cuS;simp only[hu];cases XL lo 0<;>cases XL hi s.size<;>rfl
def cuD(P:nE)(d:nM TypeDesc)(r:Rt)(s:Nat)(es:List (List AV))(hi:nM AV)(l h:nM Int)(K:AV->Prop):Prop :=
 match d with
 | some (.slice e)=>cuL P r s es e hi l h K
 | _=>False
theorem Gd(P:nE)(e:Nat)(r:Rt)(s:Nat)(es:List (List AV))(hi:nM AV)(l h:nM Int)(K:AV->Prop):cuD P (some (.slice e)) r s es hi l h K=cuL P r s es e hi l h K:=propext mG
theorem GM(P:nE)(t:Nat)(r:Rt)(s:Nat)(es:List (List AV))(lo hi:nM AV)(K:AV->Prop):Tt P t (.list r s es) lo hi none K=cuD P (P.underlying t) r s es hi (XL lo 0) (XL hi es.length) K:=by
 unfold Tt cuD cuL;generalize P.underlying t=d;cases d with
 | none=>rfl
 | some d =>
   cases d<;>try rfl
   simp only;cases XL lo 0<;>cases XL hi es.length<;>rfl
def cuM(P:nE)(d:nM TypeDesc)(b o cap:Nat)(h:nM Int)(K:AV->Prop):Prop :=
 match d,h with
 | some (.slice e),some h=>(ZB P e).isSome=true/\0<=h/\h<=cap/\K (.val (.slice (some ⟨b,o,none⟩) h.toNat cap))
 | _,_=>False
theorem E0(P:nE)(e b o cap:Nat)(h:Int)(K:AV->Prop):cuM P (some (.slice e)) b o cap (some h) K=((ZB P e).isSome=true/\0<=h/\h<=cap/\K (.val (.slice (some ⟨b,o,none⟩) h.toNat cap))):=propext mG
theorem DY(P:nE)(t b o n cap:Nat)(hi:nM AV)(K:AV->Prop):Tt P t (.val (.slice (some ⟨b,o,none⟩) n cap)) none hi none K=cuM P (P.underlying t) b o cap (XL hi n) K:=by
 unfold Tt cuM;generalize P.underlying t=d;cases d with
 | none=>rfl
 | some d =>
   cases d<;>try rfl
   simp only;cases XL hi n<;>rfl
attribute [go_sem] E0 DY
def saK(vs:nM (List AV))(n:nM Nat)(x:nM AObj)(o:Nat)(K:AV->Prop):Prop :=
 match vs,n,x with
 | some vs,some n,some (.cells cs)=>vs.length=n/\vs.all AV.one=true/\o+n<=cs.length/\Yn cs o vs=cs/\K .any
 | _,_,_=>False
theorem Fi(vs cs:List AV)(n o:Nat)(K:AV->Prop):saK (some vs) (some n) (some (.cells cs)) o K=(vs.length=n/\vs.all AV.one=true/\o+n<=cs.length/\Yn cs o vs=cs/\K .any):=propext mG
theorem Gt(P:nE)(T:nF)(b o:Nat)(v:AV)(σ:Store)(K:AV->Prop):VT P T (.val (.pointer (some ⟨b,o,none⟩))) v σ K=saK v.cells (ZB P T) (σ.get b) o K:=by
 unfold VT saK;generalize v.cells=p;generalize ZB P T=q
 exact sG
attribute [go_sem] Fi Gt
section
variable {P:nE} {ev:nJ->AV} {σ:Store} {K:AV->Prop}
theorem Cp(x:nJ):ZN P ev σ K (.move x)=K (ev x):=propext mG
theorem I8(x:nJ):ZN P ev σ K (.assign x)=K (ev x):=propext mG
theorem Co(c a b:nJ):ZN P ev σ K (.pick c a b)=pkK (ev c) (ev a) (ev b) K:=by
 unfold pkK;simp only[ZN];cases ev c<;>try rfl
theorem Fz(t:nF)(ps:List (Nat×nJ)):ZN P ev σ K (.build t ⟨ps⟩)=VD P t (ps.map fun p=>(p.1,ev p.2)) K:=propext mG
theorem PE(t:nF)(n:Nat)(ps:List (Nat×nJ)):ZN P ev σ K (.buildSlice t n ⟨ps⟩)=YH P t n (ps.map fun p=>(p.1,ev p.2)) K:=propext mG
theorem Cq(T:nF)(x:nJ):ZN P ev σ K (.load T x)=We P T (ev x) σ K:=propext mG
theorem MC(x:nJ):ZN P ev σ K (.nilCheck x)=PX (ev x) K:=propext mG
theorem FA(op:BinOp)(T T':nF)(x y:nJ):ZN P ev σ K (.binOp op T x y T')=SX P op T (ev x) (ev y) y K:=propext mG
theorem Cn(op:UnOp)(T:nF)(x:nJ):ZN P ev σ K (.unOp op T x)=aun op (ev x) K:=propext mG
theorem MD(fn:Fn)(f c:List nJ):ZN P ev σ K (.makeFunc fn ⟨f⟩ ⟨c⟩)=mfK fn (dK (f.map ev)) (dK (c.map ev)) K:=propext mG
theorem Fy(t:nF)(x:nJ)(lo hi mx:nM nJ):ZN P ev σ K (.slice t x lo hi mx)=Tt P t (ev x) (lo.map ev) (hi.map ev) (mx.map ev) K:=propext mG
theorem O9(s:nF)(x:nJ)(f:Nat):ZN P ev σ K (.fieldAddr s x f)=WM P s (ev x) f K:=propext mG
theorem I7(t:nF)(m k:nJ)(ok:Bool):ZN P ev σ K (.lookup t m k ok)=UX P t (ev m) (ev k) ok σ K:=propext mG
theorem Fx(T:nF)(x y:nJ):ZN P ev σ K (.store T x y)=VT P T (ev x) (ev y) σ K:=propext mG
theorem O8(t:nF)(x i:nJ):ZN P ev σ K (.indexAddr t x i)=Ya P t (ev x) (ev i) K:=propext mG
theorem Kt(x:nJ)(i:Nat):ZN P ev σ K (.extract x i)=XP (ev x) i K:=propext mG
def OU(P:nE)(f:AV)(args:List AV)(σ:Store)(K:AV->Prop):Prop:=∃ v,(∀ σ',Xl σ σ'->ZH P f args σ' (ZP v σ'))/\K v
theorem OU.mk{f:AV}{args:List AV}{v:AV}(h:∀ σ',Xl σ σ'->ZH P f args σ' (ZP v σ'))(hk:K v):OU P f args σ K:=⟨v,h,hk⟩
theorem Cr(f:nJ)(args:List nJ)(ts:nN nF):ZN P ev σ K (.call ⟨.value f,⟨args⟩,ts⟩)=OU P (ev f) (args.map ev) σ K:=propext mG
def pbt(P:nE)(b:Builtin)(ts:List nF)(args:List AV)(σ:Store)(K:AV->Prop):Prop :=
 match b,ts,args with
 | .len,[t],[x]=>VC P t x σ K
 | .max,_,xs=>amm true xs K
 | .min,_,xs=>amm false xs K
 | _,_,_=>False
theorem Cu(t:nF)(x:AV):pbt P .len [t] [x] σ K=VC P t x σ K:=propext mG
theorem Ku(b:Builtin)(args:List nJ)(ts:List nF):ZN P ev σ K (.call ⟨.builtin b,⟨args⟩,⟨ts⟩⟩)=pbt P b ts (args.map ev) σ K:=by
 cases b<;>try rfl
 simp only[ZN,pbt]
 cases ts with
 | nil=>rfl
 | cons t r => cases r<;>cases args<;>try rfl
               all_goals (rename_i a b;cases b<;>rfl)
theorem V5(op:BinOp)(T:nF)(x y:AV)(yc:nJ){v:AV}(h:XQ P op T x y (opC yc)=some v):SX P op T x y yc K=K v:=by
 simp only[SX,h]
theorem An(P:nE)(T:nF)(k:IntKind)(a b:Int)(yc:nJ)(K:AV->Prop):SX P .sub T (.val (.int k a)) (.val (.int k b)) yc K=K (.val (.int k (k.wrap (a-b)))):=V5 _ _ _ _ _ xq
theorem Aq(P:nE)(T:nF)(k:IntKind)(a b:Int)(yc:nJ)(K:AV->Prop):SX P .leq T (.val (.int k a)) (.val (.int k b)) yc K=K (.val (.bool (decide (a<=b)))):=V5 _ _ _ _ _ xq
theorem Ar(P:nE)(T:nF)(k:IntKind)(a b:Int)(yc:nJ)(K:AV->Prop):SX P .gtr T (.val (.int k a)) (.val (.int k b)) yc K=K (.val (.bool (decide (b<a)))):=V5 _ _ _ _ _ xq
theorem As(P:nE)(T:nF)(k:IntKind)(a b:Int)(yc:nJ)(K:AV->Prop):SX P .geq T (.val (.int k a)) (.val (.int k b)) yc K=K (.val (.bool (decide (b<=a)))):=V5 _ _ _ _ _ xq
theorem At(P:nE)(T:nF)(k:IntKind)(a b:Int)(yc:nJ)(K:AV->Prop):SX P .eql T (.val (.int k a)) (.val (.int k b)) yc K=K (.val (.bool (decide (a=b)))):=V5 _ _ _ _ _ xq
theorem Ap(P:nE)(T:nF)(k:IntKind)(a b:Int)(yc:nJ)(K:AV->Prop):SX P .neq T (.val (.int k a)) (.val (.int k b)) yc K=K (.val (.bool (!decide (a=b)))):=V5 _ _ _ _ _ xq
theorem Ao(P:nE)(T:nF)(a b:ByteArray)(yc:nJ)(K:AV->Prop):SX P .eql T (.val (.string a)) (.val (.string b)) yc K=K (.val (.bool (decide (a=b)))):=V5 _ _ _ _ _ xq
end
attribute [go_sem ↓]  Dj Jk Do Dk aC aB aA az aw ar Dp Gq Dl Dn Bs DI DH DJ Ec Ed HA Bx Gx Bv DA aD
attribute [go_sem ↓] Dy PW Bz Ds LD Dz Bu Rs LE NV Dt NX NW Dw Jo PV Dv BA
attribute [go_sem ↓] BB Jn NU Gw Gv Du Bw Dx N1 Jp F5 F3 CQ CS CT MU F4 HB KJ PJ KQ M3 Nn Nm HH M1 GH DD DC
attribute [go_sem ↓] bE bF aJ aK GB GD GC CU Bf FJ F8 F9 Hi
attribute [go_sem ↓] Gy DQ KH Hz Hy BJ BL Et HU CR DT HV HW Ea Cp I8 Co
attribute [go_sem ↓] Fz PE Cq MC FA Cn MD Fy O9 O8 Fx I7 Kt Cr Ku
attribute [go_sem] FD Hb DP Db FM I9 Z4 HQ JE LP GN JF EH Ld Ez EE EA ED EF EG
attribute [go_sem] EB EC Hg Hh Hf DB I1 I2 Cm of_nil of_cons A3 EP H9 Be FU Hp MP PG Nh
attribute [go_sem] KE FR FV FS Hs KF Ni MQ PH QE Hq Hr LZ LY Ma PB OV Qa RX LW
attribute [go_sem] LX Gl Jh NQ Gj Gk Jg PT Lv Ph Lu Jf E8 Gm Cy FI Kx Cw Cx FH
attribute [go_sem] MH He Nb Hd FG Av PR CL BR BQ Ze Zc Zg Yo Zo SU Option.isSome_some EY Id F1 DM GE GY Jl EN
attribute [go_sem] EO GJ JA Eh R4 M4 VW PY CY Dd Df DG DF BD JJ Rg
attribute [go_sem] EZ Gd Jy aY aL aP aQ aR aS aU aO
attribute [go_sem] aN aM aW aV DZ D0 BS BT BU aT Bt Ep GG LS N5
attribute [go_sem] Dh GO De Pv VV DO TZ DX E1 GM KZ KY BG DL BE JH BP BO
attribute [go_sem] VU Yn Uw XE AV.toVal dK Value.cells if_true if_false List.map_cons List.map_nil List.getD_cons_zero List.getD_cons_succ List.getD_nil List.length_cons List.length_nil List.all_cons List.all_nil Bool.and_self
attribute [go_sem] Bool.true_and Bool.and_true List.take_succ_cons List.take_zero List.take_nil List.drop_succ_cons List.drop_zero List.drop_nil List.cons_append List.nil_append List.append_nil List.head?_cons List.getElem?_cons_zero List.getElem?_cons_succ List.getElem?_nil List.getElem?_toArray Option.bind_some Option.bind_none Option.map_some Option.map_none
attribute [go_sem] true_and and_true forall_const ne_eq not_false_eq_true not_true_eq_false false_implies true_implies Nat.zero_add Nat.add_zero Nat.le_refl eq_self Bool.not_true Bool.not_false Bool.true_eq_false Bool.false_eq_true imp_self implies_true List.size_toArray true_or
attribute [go_sem] or_true BN Ga IX Cu An Aq Ar As At Ap
attribute [go_sem] Ao
end Go.Vx
