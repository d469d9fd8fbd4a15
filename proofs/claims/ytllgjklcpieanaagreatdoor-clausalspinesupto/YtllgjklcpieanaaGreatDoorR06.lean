/- A part of the proof of clausalSpinesProved. -/
import Derived.Test.YtllgjklcpieanaaGreatDoorR05
import Derived.Orders
set_option linter.unusedVariables false
set_option linter.unusedSimpArgs false
section
namespace Go.Vx
open Go.RowKit
def ZP(v:AV)(σ:Store):ZE->Store->Prop:=fun r σ'=>r=.ret v/\σ'=σ
def Xl(σ σ':Store):Prop:=∀ b x,σ.get b=some x->σ'.get b=some x
theorem Xl.refl(σ:Store):Xl σ σ:=fun _ _ h=>h
theorem Xl.trans{σ σ1 σ2:Store}(h:Xl σ σ1)(k:Xl σ1 σ2):Xl σ σ2:=fun b x e=>k b x (h b x e)
theorem Zj{σ:Store}{b:Nat}(h:Zm σ b):σ.get b=none:=by
 induction σ with
 | nil=>rfl
 | cons p r ih=>obtain⟨b',y⟩:=p;simp only[Store.get];rw[ig h.1];exact ih h.2
theorem Xl.cons{σ:Store}{b:Nat}(h:Zm σ b)(x:AObj):Xl σ ((b,x)::σ):=fun b' y e=>by
 simp only[Store.get]
 rw[ig (fun c=>by rw[<- c,Zj h] at e;cases e)]
 exact e
def SX(P:nE)(op:BinOp)(T:nF)(x y:AV)(yc:nJ)(K:AV->Prop):Prop :=
 match XQ P op T x y (opC yc) with
 | some v=>K v
 | none=>False
def VT(P:nE)(T:nF)(p v:AV)(σ:Store)(K:AV->Prop):Prop :=
 match p,v.cells,ZB P T with
 | .val (.pointer (some ⟨b,o,none⟩)),some vs,some n=>match σ.get b with
   | some (.cells cs)=>vs.length=n/\vs.all AV.one=true/\o+n<=cs.length/\Yn cs o vs=cs/\K .any
   | _=>False
 | _,_,_=>False
def ZN(P:nE)(ev:nJ->AV)(σ:Store)(K:AV->Prop):Op->Prop
 | .move x=>K (ev x)
 | .assign x=>K (ev x)
 | .pick c a b=>match ev c with
   | .val (.bool x)=>K (if x then ev a else ev b)
   | _=>False
 | .box _ x=>match(ev x).cells with
   | some cs=>cs.all AV.one=true/\K (.ro cs)
   | none=>False
 | .build t ps=>VD P t (ps.toList.map fun p=>(p.1,ev p.2)) K
 | .buildSlice t n ps=>YH P t n (ps.toList.map fun p=>(p.1,ev p.2)) K
 | .load T x=>We P T (ev x) σ K
 | .nilCheck x=>PX (ev x) K
 | .binOp op T x y _=>SX P op T (ev x) (ev y) y K
 | .unOp op _ x=>aun op (ev x) K
 | .convert s d x=>OS P s d (ev x) K
 | .makeInterface T x=>UY P T (ev x) K
 | .makeFunc fn first cap=>match dK (first.toList.map ev),dK (cap.toList.map ev) with
   | some f,some c=>K (.val (.func fn f.toArray c.toArray))
   | _,_=>False
 | .slice t x lo hi mx=>Tt P t (ev x) (lo.map ev) (hi.map ev) (mx.map ev) K
 | .fieldAddr s x f=>WM P s (ev x) f K
 | .field s x f=>Ti P s (ev x) f K
 | .indexAddr t x i=>Ya P t (ev x) (ev i) K
 | .index t x i=>Vj P t (ev x) (ev i) K
 | .extract x i=>XP (ev x) i K
 | .call { callee:=.value f,args,.. }=>∃ v,(∀ σ',Xl σ σ'->ZH P (ev f) (args.toList.map ev) σ' (ZP v σ'))/\K v
 | .call { callee:=.builtin .len,args,argTypes }=>match argTypes.toList,args.toList.map ev with
   | [t],[x]=>VC P t x σ K
   | _,_=>False
 | .call { callee:=.builtin .max,args,.. }=>amm true (args.toList.map ev) K
 | .call { callee:=.builtin .min,args,.. }=>amm false (args.toList.map ev) K
 | .lookup t m k ok=>UX P t (ev m) (ev k) ok σ K
 | .store T x y=>VT P T (ev x) (ev y) σ K
 | _=>False
def Det(F:(AV->Prop)->Prop):Prop:=∀ K,F K->∃ v,K v/\F (fun u=>u=v)
theorem OL(P:nE)(T:nF)(x:AV)(σ:Store):Det (We P T x σ):=by
 intro K h;unfold We at h ⊢;split at h
 ·split at h
  ·rename_i v hv;exact⟨v,h,by simp only[hv]⟩
  ·exact h.elim
 ·split at h
  ·split at h
   ·rename_i v hv;exact⟨v,h,by simp_all⟩
   ·exact h.elim
  ·exact h.elim
 ·exact h.elim
theorem Q5(P:nE)(s:nF)(x:AV)(f:Nat):Det (WM P s x f):=by
 intro K h;unfold WM at h ⊢;split at h
 ·rename_i hf;exact⟨_,h,by simp only[hf]⟩
 ·rename_i hf;exact⟨_,h,by simp only[hf]⟩
 ·exact h.elim
theorem UP(P:nE)(t:nF)(x i:AV):Det (Ya P t x i):=by
 intro K h;unfold Ya at h ⊢;split at h
 ·rename_i r s es k n e he
  obtain⟨h1,h2,h3,h4⟩:=h
  have hlt:n.toNat<es.length:=by omega
  exact⟨.ro es[n.toNat],h4 _ (iO hlt),by simp only[he];exact⟨h1,h2,h3,fun c hc=>by rw[iO hlt] at hc;injection hc with hc;rw[hc]⟩⟩
 ·rename_i he;split at h
  ·rename_i s hs;exact⟨_,h.2.2,by simp only[he,hs];exact⟨h.1,h.2.1,trivial⟩⟩
  ·exact h.elim
 ·exact qX
 ·exact qX
 ·exact h.elim
theorem Q3(P:nE)(t:nF)(x i:AV):Det (Vj P t x i):=by
 intro K h;unfold Vj at h ⊢;split at h
 ·rename_i hu;exact⟨_,h.2.2,by simp only[hu];exact⟨h.1,h.2.1,trivial⟩⟩
 ·rename_i hu;split at h
  ·rename_i s hs
   obtain⟨h1,h2,h⟩:=h
   split at h
   ·rename_i v hv;exact⟨v,h,by simp only[hu,hs,hv];exact⟨h1,h2,trivial⟩⟩
   ·exact h.elim
  ·exact h.elim
 ·exact h.elim
theorem RO(P:nE)(s:nF)(x:AV)(f:Nat):Det (Ti P s x f):=by
 intro K h;unfold Ti at h ⊢;split at h
 ·rename_i hf;split at h
  ·rename_i v hv;exact⟨v,h,by simp only[hf,hv]⟩
  ·exact h.elim
 ·exact h.elim
theorem OM(P:nE)(s d:nF)(x:AV):Det (OS P s d x):=by
 intro K h;unfold OS at h ⊢;split at h
 ·rename_i hs hd;exact⟨_,h,by simp only[hs,hd]⟩
 ·exact h.elim
theorem IC(op:UnOp)(x:AV):Det (aun op x):=by
 intro K h;unfold aun at h ⊢;split at h
 ·exact⟨_,h,rfl⟩
 ·exact⟨_,h,rfl⟩
 ·exact h.elim
theorem Q4(P:nE)(T:nF)(x:AV):Det (UY P T x):=by
 intro K h;unfold UY at h ⊢;obtain⟨h1,h2,h⟩:=h;split at h
 ·rename_i v hv;exact⟨_,h,h1,h2,by simp only[hv]⟩
 ·exact h.elim
theorem Sw(x:AV)(i:Nat):Det (XP x i):=by
 intro K h;unfold XP at h ⊢;split at h
 ·split at h
  ·rename_i v hv;exact⟨v,h,by simp only[hv]⟩
  ·exact h.elim
 ·exact h.elim
theorem Q6(P:nE)(t:nF)(ps:List (Nat×AV)):Det (VD P t ps):=by
 intro K h;unfold VD at h ⊢;split at h
 ·rename_i h1 h2;split at h
  ·rename_i v hv;exact⟨_,h,by simp only[h1,h2,hv]⟩
  ·exact h.elim
 ·exact h.elim
theorem Ut(P:nE)(t:nF)(n:Nat)(ps:List (Nat×AV)):Det (YH P t n ps):=by
 intro K h;unfold YH at h ⊢;split at h
 ·rename_i he;split at h
  ·rename_i h1 h2
   obtain⟨a1,a2,a3,a4,h⟩:=h
   split at h
   ·rename_i es hes;exact⟨_,h.2,by simp only[he,h1,h2,hes];exact⟨a1,a2,a3,a4,h.1,trivial⟩⟩
   ·exact h.elim
  ·exact h.elim
 ·exact h.elim
theorem Li(P:nE)(t:nF)(x:AV)(σ:Store):Det (VC P t x σ):=by
 intro K h;unfold VC at h ⊢;split at h
 ·exact sr
 ·exact sr
 ·exact sr
 ·exact sr
 ·rename_i hu;split at h
  ·rename_i hg;exact⟨_,h,by simp only[hu,hg]⟩
  ·exact h.elim
 ·rename_i n e;exact⟨_,h,by first|rfl|(split<;>simp_all)⟩
 ·exact h.elim
theorem Lj(P:nE)(t:nF)(x:AV)(lo hi mx:nM AV):Det (Tt P t x lo hi mx):=by
 intro K h;unfold Tt at h ⊢;split at h
 ·rename_i hu;split at h
  ·rename_i h1 h2;exact⟨_,h.2.2.2,by simp only[hu,h1,h2];exact⟨h.1,h.2.1,h.2.2.1,trivial⟩⟩
  ·exact h.elim
 ·rename_i hu;split at h
  ·rename_i h1 h2;exact⟨_,h.2.2.2.2,by simp only[hu,h1,h2];exact⟨h.1,h.2.1,h.2.2.1,h.2.2.2.1,trivial⟩⟩
  ·rename_i h1 h2;exact⟨_,h.2.2.2.2.2.2,by simp only[hu,h1,h2];exact⟨h.1,h.2.1,h.2.2.1,h.2.2.2.1,h.2.2.2.2.1,h.2.2.2.2.2.1,trivial⟩⟩
  ·exact h.elim
 ·rename_i hu;split at h
  ·rename_i h1;exact⟨_,h.2.2.2,by simp only[hu,h1];exact⟨h.1,h.2.1,h.2.2.1,trivial⟩⟩
  ·exact h.elim
 ·exact h.elim
theorem R8(b:Bool)(xs:List AV):Det (amm b xs):=by
 intro K h;unfold amm at h ⊢;split at h
 ·exact⟨_,h,rfl⟩
 ·exact h.elim
theorem Lh(x:AV):Det (PX x):=by
 intro K h;unfold PX at h ⊢;split at h
 ·exact⟨_,h,rfl⟩
 ·exact⟨_,h,rfl⟩
 ·exact⟨_,h,rfl⟩
 ·exact h.elim
theorem Gb(P:nE)(T:nF)(p v:AV)(σ:Store):Det (VT P T p v σ):=by
 intro K h
 unfold VT at h ⊢
 split at h
 ·rename_i b o vs n h1 h2
  split at h
  ·rename_i cs hc
   obtain⟨a1,a2,a3,a4,a5⟩:=h
   exact⟨_,a5,by simp only[h1,h2,hc];exact⟨a1,a2,a3,a4,trivial⟩⟩
  ·exact h.elim
 ·exact h.elim
theorem Jm{P:nE}{T:nF}{p v:AV}{σ σ':Store}{K:AV->Prop}(hs:Xl σ σ')(h:VT P T p v σ K):VT P T p v σ' K:=by
 unfold VT at h ⊢
 split at h
 ·rename_i b o vs n h1 h2
  split at h
  ·rename_i cs hc
   simp only[hs _ _ hc]
   exact h
  ·exact h.elim
 ·exact h.elim
theorem V0{σ:Store}{b:Nat}{y:AObj}(k:σ.get b=some y):σ.set b y=σ:=by
 exact qj
theorem LC{P:nE}{T:nF}{p v:AV}{σ:Store}{K:AV->Prop}{N:Store->Prop}(h:VT P T p v σ K)(hN:N σ):UV P T p v σ N:=by
 unfold VT at h
 unfold UV
 split at h
 ·rename_i b o vs n h1 h2
  split at h
  ·rename_i cs hc
   obtain⟨a1,a2,a3,a4,a5⟩:=h
   simp only[h1,h2,hc]
   exact⟨a1,a2,a3,by rw[a4,V0 hc];exact hN⟩
  ·exact h.elim
 ·exact h.elim
theorem Gu{P:nE}{T:nF}{p v:AV}{σ:Store}{K:AV->Prop}(h:VT P T p v σ K):K .any:=by
 unfold VT at h
 split at h
 ·split at h
  ·exact h.2.2.2.2
  ·exact h.elim
 ·exact h.elim
theorem OK(P:nE)(t:nF)(m k:AV)(ok:Bool)(σ:Store):Det (UX P t m k ok σ):=by
 rintro K ⟨κ,i,ke,r,c,l,x,kt,et,z,h1,h2,h3,h4,h5,h6,h7⟩
 exact⟨_,h7,κ,i,ke,r,c,l,x,kt,et,z,h1,h2,h3,h4,h5,h6,rfl⟩
theorem Ju{P:nE}{t:nF}{m k:AV}{ok:Bool}{σ σ':Store}{K:AV->Prop}(hs:Xl σ σ')(h:UX P t m k ok σ K):UX P t m k ok σ' K:=by
 obtain⟨κ,i,ke,r,c,l,x,kt,et,z,h1,h2,h3,h4,h5,h6,h7⟩:=h
 exact⟨κ,i,ke,r,c,l,x,kt,et,z,h1,h2,h3,h4,hs _ _ h5,h6,h7⟩
theorem UL{P:nE}{o:nI}{ev:nJ->AV}{σ:Store}{K:AV->Prop}(h:ZN P ev σ K o.op):∃ v,K v/\AOp P o ev σ (ZP v σ):=by
 have fin:∀ {v:AV},ZA P false ev σ (ZP v σ) o.op->AOp P o ev σ (ZP v σ):=fun h=>YW h
 have via:∀ {F:(AV->Prop)->Prop},Det F->F K->(∀ v,F (fun u=>u=v)->ZA P false ev σ (ZP v σ) o.op)->∃ v,K v/\AOp P o ev σ (ZP v σ):=by
  intro F hd hf hs
  obtain⟨v,hk,hv⟩:=hd K hf
  exact⟨v,hk,fin (hs v hv)⟩
 have eqk:∀ v:AV,(Xa (ZP v σ) σ)=fun u=>u=v:=fun v=>funext fun u=>propext ⟨fun⟨e,_⟩=>by injection e,fun e=>⟨by rw[e],rfl⟩⟩
 cases ho:o.op with
 | move x=>rw[ho] at h;exact⟨_,h,fin (by rw[ho];exact⟨rfl,rfl⟩)⟩
 | assign x=>rw[ho] at h;exact⟨_,h,fin (by rw[ho];exact⟨rfl,rfl⟩)⟩
 | pick c a b =>
   rw[ho] at h;simp only[ZN] at h;split at h
   ·rename_i x hx;exact⟨_,h,fin (by rw[ho];simp only[ZA,hx];exact⟨rfl,rfl⟩)⟩
   ·exact h.elim
 | box T x =>
   rw[ho] at h;simp only[ZN] at h;split at h
   ·rename_i cs hx;exact⟨_,h.2,fin (by rw[ho];simp only[ZA,hx];exact⟨h.1,rfl,rfl⟩)⟩
   ·exact h.elim
 | build t ps=>rw[ho] at h;simp only[ZN] at h;exact via (Q6 P t _) h (fun v hv=>by rw[ho];simp only[ZA,eqk];exact hv)
 | buildSlice t n ps=>rw[ho] at h;simp only[ZN] at h;exact via (Ut P t n _) h (fun v hv=>by rw[ho];simp only[ZA,eqk];exact hv)
 | load T x=>rw[ho] at h;simp only[ZN] at h;exact via (OL P T _ σ) h (fun v hv=>by rw[ho];simp only[ZA,eqk];exact hv)
 | nilCheck x=>rw[ho] at h;simp only[ZN] at h;exact via (Lh _) h (fun v hv=>by rw[ho];simp only[ZA,eqk];exact hv)
 | binOp op T x y yT =>
   rw[ho] at h;simp only[ZN,SX] at h;split at h
   ·rename_i v hv;exact⟨v,h,fin (by rw[ho];simp only[ZA,Y1,hv,eqk])⟩
   ·exact h.elim
 | unOp op T x=>rw[ho] at h;simp only[ZN] at h;exact via (IC op _) h (fun v hv=>by rw[ho];simp only[ZA,eqk];exact hv)
 | convert s d x=>rw[ho] at h;simp only[ZN] at h;exact via (OM P s d _) h (fun v hv=>by rw[ho];simp only[ZA,eqk];exact hv)
 | makeInterface T x=>rw[ho] at h;simp only[ZN] at h;exact via (Q4 P T _) h (fun v hv=>by rw[ho];simp only[ZA,eqk];exact hv)
 | makeFunc fn first cap =>
   rw[ho] at h;simp only[ZN] at h;split at h
   ·rename_i h1 h2;exact⟨_,h,fin (by rw[ho];simp only[ZA,h1,h2];exact⟨rfl,rfl⟩)⟩
   ·exact h.elim
 | slice t x lo hi mx=>rw[ho] at h;simp only[ZN] at h;exact via (Lj P t _ _ _ _) h (fun v hv=>by rw[ho];simp only[ZA,eqk];exact hv)
 | fieldAddr s x f=>rw[ho] at h;simp only[ZN] at h;exact via (Q5 P s _ f) h (fun v hv=>by rw[ho];simp only[ZA,eqk];exact hv)
 | field s x f=>rw[ho] at h;simp only[ZN] at h;exact via (RO P s _ f) h (fun v hv=>by rw[ho];simp only[ZA,eqk];exact hv)
 | indexAddr t x i=>rw[ho] at h;simp only[ZN] at h;exact via (UP P t _ _) h (fun v hv=>by rw[ho];simp only[ZA,eqk];exact hv)
 | index t x i=>rw[ho] at h;simp only[ZN] at h;exact via (Q3 P t _ _) h (fun v hv=>by rw[ho];simp only[ZA,eqk];exact hv)
 | store T x y =>
   rw[ho] at h;simp only[ZN] at h
   exact⟨.any,Gu h,fin (by rw[ho];simp only[ZA];exact LC h ⟨rfl,rfl⟩)⟩
 | lookup t m k ok=>rw[ho] at h;simp only[ZN] at h;exact via (OK P t _ _ ok σ) h (fun v hv=>by rw[ho];simp only[ZA,eqk];exact hv)
 | extract x i=>rw[ho] at h;simp only[ZN] at h;exact via (Sw _ i) h (fun v hv=>by rw[ho];simp only[ZA,eqk];exact hv)
 | call c =>
   obtain⟨callee,args,ts⟩:=c
   cases callee with
   | value f =>
     rw[ho] at h;simp only[ZN] at h
     obtain⟨v,h1,h2⟩:=h
     exact⟨v,h2,fin (by rw[ho];simp only[ZA];exact h1 σ (.refl σ))⟩
   | invoke r m=>rw[ho] at h;simp only[ZN] at h
   | builtin b =>
     cases b<;>rw[ho] at h<;>simp only[ZN] at h
     case len =>
      split at h
      ·rename_i t x ht hx
       exact via (Li P t x σ) h (fun v hv=>by rw[ho];simp only[ZA,XG,ht,hx,eqk];exact hv)
      ·exact h.elim
     case max=>exact via (R8 true _) h (fun v hv=>by
      rw[ho];simp only[ZA];unfold XG;split<;>simp_all)
     case min=>exact via (R8 false _) h (fun v hv=>by
      rw[ho];simp only[ZA];unfold XG;split<;>simp_all)
 | _=>rw[ho] at h;simp only[ZN] at h
def RL:Op->Bool
 | .move _|.assign _|.pick ..|.box ..|.build ..|.buildSlice ..|.nilCheck _|.binOp ..|.unOp ..|.convert ..|.makeInterface ..|.makeFunc ..|.slice ..|.fieldAddr ..|.field ..|.indexAddr ..|.index ..|.extract ..=>true
 | _=>false
theorem Ks{P:nE}{ev:nJ->AV}{σ σ':Store}{K:AV->Prop}{op:Op}(hf:RL op=true)(h:ZN P ev σ K op):ZN P ev σ' K op:=by
 cases op<;>first|exact h|(simp only[RL] at hf;exact absurd hf xf)
theorem Jw{P:nE}{T:nF}{p:AV}{σ σ':Store}{K:AV->Prop}(hs:Xl σ σ')(h:We P T p σ K):We P T p σ' K:=by
 unfold We at h ⊢
 split at h
 ·exact h
 ·rename_i b o
  split at h
  ·rename_i cs hc
   simp only[hs _ _ hc]
   exact h
  ·exact h.elim
 ·exact h.elim
theorem GF{P:nE}{t:nF}{x:AV}{σ σ':Store}{K:AV->Prop}(hs:Xl σ σ')(h:VC P t x σ K):VC P t x σ' K:=by
 unfold VC at h ⊢
 split at h
 ·rename_i hu;exact h
 ·rename_i hu;exact h
 ·rename_i hu;exact h
 ·rename_i hu;exact h
 ·rename_i hu;split at h
  ·rename_i hg;simp only[hs _ _ hg];exact h
  ·exact h.elim
 ·rename_i n e
  first|exact h|(split<;>simp_all)
 ·exact h.elim
theorem Kq{P:nE}{ev:nJ->AV}{σ σ':Store}{K:AV->Prop}{op:Op}(hs:Xl σ σ')(h:ZN P ev σ K op):ZN P ev σ' K op:=by
 cases op with
 | load T x=>exact Jw hs h
 | lookup t m k ok=>exact Ju hs h
 | store T x y=>exact Jm hs h
 | call c =>
   obtain⟨callee,args,ts⟩:=c
   cases callee with
   | value f=>obtain⟨v,h1,h2⟩:=h;exact⟨v,fun σ2 k=>h1 σ2 (hs.trans k),h2⟩
   | invoke r m=>exact h
   | builtin b =>
     cases b<;>simp only[ZN] at h ⊢<;>first|exact h|skip
     case len =>
      split at h
      ·exact GF hs h
      ·exact h.elim
 | _=>exact h
theorem I6{P:nE}{ev:nJ->AV}{σ:Store}(op:Op):Det (fun K=>ZN P ev σ K op):=by
 intro K h
 cases op with
 | move x=>exact⟨_,h,rfl⟩
 | assign x=>exact⟨_,h,rfl⟩
 | pick c a b =>
   simp only[ZN] at h ⊢;split at h
   ·exact⟨_,h,rfl⟩
   ·exact h.elim
 | box T x =>
   simp only[ZN] at h ⊢;split at h
   ·exact⟨_,h.2,h.1,rfl⟩
   ·exact h.elim
 | build t ps=>exact Q6 P t _ K h
 | buildSlice t n ps=>exact Ut P t n _ K h
 | load T x=>exact OL P T _ σ K h
 | nilCheck x=>exact Lh _ K h
 | binOp op T x y yT =>
   simp only[ZN,SX] at h ⊢;split at h
   ·exact⟨_,h,rfl⟩
   ·exact h.elim
 | unOp op T x=>exact IC op _ K h
 | convert s d x=>exact OM P s d _ K h
 | makeInterface T x=>exact Q4 P T _ K h
 | makeFunc fn first cap =>
   simp only[ZN] at h ⊢;split at h
   ·exact⟨_,h,rfl⟩
   ·exact h.elim
 | slice t x lo hi mx=>exact Lj P t _ _ _ _ K h
 | fieldAddr s x f=>exact Q5 P s _ f K h
 | field s x f=>exact RO P s _ f K h
 | indexAddr t x i=>exact UP P t _ _ K h
 | index t x i=>exact Q3 P t _ _ K h
 | extract x i=>exact Sw _ i K h
 | lookup t m k ok=>exact OK P t _ _ ok σ K h
 | store T x y=>exact Gb P T _ _ σ K h
 | call c =>
   obtain⟨callee,args,ts⟩:=c
   cases callee with
   | value f=>obtain⟨v,h1,h2⟩:=h;exact⟨v,h2,v,h1,rfl⟩
   | invoke r m=>exact h.elim
   | builtin b =>
     cases b<;>simp only[ZN] at h ⊢<;>first|exact h.elim|skip
     case len =>
      split at h
      ·exact Li P _ _ σ K h
      ·exact h.elim
     case max=>exact R8 true _ K h
     case min=>exact R8 false _ K h
 | _=>exact h.elim
theorem Kr{P:nE}{o:nI}{ev:nJ->AV}{σ:Store}{K:AV->Prop}(h:ZN P ev σ K o.op) :
 ∃ v,K v/\∀ σ',(RL o.op=true\/Xl σ σ')->AOp P o ev σ' (ZP v σ'):=by
 obtain⟨v,hk,h⟩:=I6 o.op K h
 refine⟨v,hk,fun σ' hs=>?_⟩
 have h':ZN P ev σ' (fun u=>u=v) o.op:=hs.elim (fun f=>Ks f h) (fun s=>Kq s h)
 obtain⟨u,rfl,hu⟩:=UL h'
 exact hu
open Go.RowKit
inductive Bef (ops:Array Oper):Nat->Nat->Prop where
 | edge (k i:Nat) (o:nI) (e:Edge) (ho:ops[i]?=some o) (he:e∈o.after.toList) (hb:Region.binds .any e=true) (hk:e.on=k):Bef ops k i
 | trans (k j i:Nat) (h:Bef ops j i) (h':Bef ops k j):Bef ops k i
def QA(acc:List Nat)(o:nI):Nat:=o.after.toList.foldl (fun s e=>if Region.binds .any e then s ||| (2 ^ e.on ||| acc.getD e.on 0) else s) 0
def RI:List nI->List Nat->List Nat
 | [],acc=>acc
 | o::r,acc=>RI r (acc++[QA acc o])
theorem Nc{ops:nN nI}{acc:List Nat}{o:nI}{i k:Nat}(ho:ops[i]?=some o)(hacc:∀ j k,(acc.getD j 0).testBit k=true->Bef ops k j)(h:(QA acc o).testBit k=true):Bef ops k i:=by
 unfold QA at h
 have key:∀ (es:List Edge) (s:Nat),(∀ e∈es,e∈o.after.toList)->(∀ k,s.testBit k=true->Bef ops k i) ->
  ∀ k,(es.foldl (fun s e=>if Region.binds .any e then s ||| (2 ^ e.on ||| acc.getD e.on 0) else s) s).testBit k=true->Bef ops k i:=by
  intro es
  induction es with
  | nil=>intro s _ hs k hk;exact hs k hk
  | cons e r ih =>
    intro s hm hs k hk
    refine ih _ (fun e he=>hm e (kR _ he)) (fun k hk=>?_) k hk
    dsimp only at hk
    split at hk
    ·rename_i hb
     rw[Nat.testBit_or,Nat.testBit_or] at hk
     simp only[kH] at hk
     have hed:Bef ops e.on i:=.edge _ _ o e ho (hm e ir) hb rfl
     rcases hk with hk|hk|hk
     ·exact hs k hk
     ·rw[Nat.testBit_two_pow] at hk
      simp only[kD] at hk
      subst hk
      exact hed
     ·exact .trans _ _ _ hed (hacc _ _ hk)
    ·exact hs k hk
 exact key _ 0 (fun e he=>he) xf k h
theorem XX{ops:nN nI}:∀ (l:List nI) (acc:List Nat),(∀ j,l[j]?=ops[acc.length+j]?)->(∀ j k,(acc.getD j 0).testBit k=true->Bef ops k j)->∀ j k,((RI l acc).getD j 0).testBit k=true->Bef ops k j:=by
 intro l
 induction l with
 | nil=>intro acc _ h;exact h
 | cons o r ih =>
   intro acc hl h
   refine ih (acc++[QA acc o]) (fun j=>?_) (fun j k hk=>?_)
   ·have:=hl (j+1)
    simp only[mg] at this
    rw[this,ii]
    congr 1
    simp;omega
   ·by_cases hj:j<acc.length
    ·refine h j k ?_
     simpa[jQ,jU hj] using hk
    ·by_cases he:j=acc.length
     ·subst he
      refine Nc (o:=o) (acc:=acc) ?_ h ?_
      ·have:=hl 0;simpa using this.symm
      ·simpa[jQ] using hk
     ·have:(acc++[QA acc o])[j]?=none:=jE xz
      simp[jQ,this] at hk
def YF(ops:nN nI)(o:nI):List Nat :=
 (o.op.operands.toList.filterMap fun|.tmp t=>some t|_=>none)++(match o.guard with|some (j,_)=>((ops[j]?).bind (·.dst)).toList|none=>[])++o.dst.toList
def E7(ops:nN nI)(ms:List Nat)(o:nI)(i:Nat)(p:nI)(k:Nat):Bool :=
 k == i || match p.dst with
   | none=>true
   | some t=>!(YF ops o).contains t || (if k<i then(ms.getD i 0).testBit k else(ms.getD k 0).testBit i)
def TH(ops:nN nI)(m:Nat):Bool :=
 let l:=ops.toList
 let ms:=RI l []
 (l.zipIdx.all fun p=>p.1.after.toList.all fun e=>!Region.binds .any e || decide (e.on<p.2)) &&
 ((l.take m).zipIdx.all fun p=>(l.take m).zipIdx.all fun q=>E7 ops ms p.1 p.2 q.1 q.2) &&
 (l.zipIdx.all fun p=>decide (p.2<m) || (List.range p.2).all fun j=>(ms.getD p.2 0).testBit j)&&decide (m<=l.length)
structure Vk (ops:Array Oper) (m:Nat):Prop where
 down:∀ (i:Nat) (o:nI) (e:Edge),ops[i]?=some o->e∈o.after.toList->Region.binds .any e=true->e.on<i
 clash:∀ (i k:Nat) (o p:nI) (t:Nat),i<m->k<m->k≠i->ops[i]?=some o->ops[k]?=some p->p.dst=some t->t∈YF ops o->(k<i->Bef ops k i)/\(i<k->Bef ops i k)
 tail:∀ (i j:Nat),m<=i->i<ops.size->j<i->Bef ops j i
 le:m<=ops.size
theorem Ve{ops:nN nI}{m:Nat}(h:TH ops m=true):Vk ops m:=by
 unfold TH at h
 simp only[kJ,kD] at h
 obtain⟨⟨⟨h1,h2⟩,h3⟩,h4⟩:=h
 have hms:=XX (ops:=ops) ops.toList [] (fun j=>by simp) (fun j k hk=>by simp at hk)
 have get:∀ (i:Nat) (o:nI),ops[i]?=some o->(o,i)∈ops.toList.zipIdx:=fun i o ho=>by
  rw[kN];simpa using ho
 have gett:∀ (i:Nat) (o:nI),i<m->ops[i]?=some o->(o,i)∈(ops.toList.take m).zipIdx:=fun i o hi ho=>by
  rw[kN,jF hi];simpa using ho
 refine⟨fun i o e ho he hb=>?_,fun i k o p t hi hk hne ho hp hd ht=>?_,fun i j hi hs hj=>?_,by simpa using h4⟩
 ·exact sY
 ·have:=List.all_eq_true.1 (List.all_eq_true.1 h2 _ (gett i o hi ho)) _ (gett k p hk hp)
  simp only[E7,hd,kH,beq_iff_eq,lS] at this
  have hc:(YF ops o).contains t=true:=by simpa using ht
  rw[hc] at this
  simp only[hne,false_or,Bool.true_eq_false] at this
  constructor
  ·intro hlt;rw[gZ hlt] at this;exact hms _ _ this
  ·intro hlt;rw[ig xh] at this;exact hms _ _ this
 ·exact qA
def ZD(D:Nat->Bool):List (nI×AV)->Nat->Fr->Fr
 | [],_,fr=>fr
 | (o,v)::r,i,fr=>ZD D r (i+1) (if D i then fr.putO o.dst v else fr)
theorem Xk(D:Nat->Bool):∀ (a b:List (nI×AV)) (s:Nat) (fr:Fr),ZD D (a++b) s fr=ZD D b (s+a.length) (ZD D a s fr):=by
 intro a
 induction a with
 | nil=>intro b s fr;simp[ZD]
 | cons p r ih=>intro b s fr;obtain⟨o,v⟩:=p;simp only[kE,ZD,ih,ij];congr 1;omega
theorem Vo(fr:Fr)(d:nM Nat)(v:AV)(t:Nat):(fr.putO d v) t=if d=some t then v else fr t:=by
 cases d with
 | none=>simp[Fr.putO]
 | some k =>
   simp only[Fr.putO,Fr.put,jq]
   by_cases h:t=k
   ·subst h;simp
   ·rw[ig h,ig (iC h)]
theorem Yh{D D':Nat->Bool}{t:Nat}:∀ (l:List (nI×AV)) (s:Nat) (fr fr':Fr),fr t=fr' t->(∀ (k:Nat) (p:nI×AV),l[k]?=some p->D (s+k)=D' (s+k)\/p.1.dst≠some t)->ZD D l s fr t=ZD D' l s fr' t:=by
 intro l
 induction l with
 | nil=>intro s fr fr' h _;exact h
 | cons p r ih =>
   intro s fr fr' h hk
   obtain⟨o,v⟩:=p
   simp only[ZD]
   refine ih (s+1) _ _ ?_ (fun k q hq=>by have:=hk (k+1) q (by simpa using hq);rw[show s+1+k=s+(k+1) from by omega];exact this)
   rcases hk 0 (o,v) rfl with e|e
   ·simp only[iw] at e
    rw[e]
    cases D' s
    ·simpa using h
    ·simp only[iE,Vo,h]
   ·have q:∀ (c:Bool) (f:Fr),(if c then f.putO o.dst v else f) t=f t:=by
     intro c f;cases c
     ·rfl
     ·simp only[iE,Vo];rw[ig e]
    rw[q,q,h]
theorem XD:∀ (l:List (nI×AV)) (s:Nat) (fr:Fr),ZD (fun _=>false) l s fr=fr:=by
 intro l
 induction l with
 | nil=>intro s fr;rfl
 | cons p r ih=>intro s fr;obtain⟨o,v⟩:=p;simp only[ZD];exact ih _ _
def gw(ops:nN nI)(g:nM (Nat×Bool))(fr:Fr):nM Bool :=
 match g with
 | none=>some true
 | some (j,want)=>match(ops[j]?).bind (·.dst) with
   | some d=>match fr d with
     | .val (.bool x)=>some (x == want)
     | .val (.tuple ⟨[]⟩)=>some false
     | _=>none
   | none=>none
theorem XC{P:nE}{ops:nN nI}{o:nI}{fr:Fr}{b:Bool}{n:Nat}{L:Nat->Nat->Prop}{w:nH}{a:Act}(h:gw ops o.guard fr=some b)(hs:a.tmps.size=n)
 (hv:∀ j want d,o.guard=some (j,want)->(ops[j]?).bind (·.dst)=some d->d<n/\V L w (fr d) (a.tmps.getD d undef)):Region.wanted o (yielded ops a.tmps)=b:=by
 unfold gw at h
 unfold Region.wanted
 split at h
 ·rename_i hg;rw[hg];injection h
 ·rename_i j want hg
  rw[hg]
  split at h
  ·rename_i d hd
   obtain⟨hdn,hvd⟩:=hv j want d hg hd
   have hsz:d<a.tmps.size:=by rw[hs];exact hdn
   have hy:yielded ops a.tmps j=match a.tmps.getD d undef with|.bool b=>some b|_=>none:=by
    unfold yielded
    rw[hd]
    simp only[jk,jO,jK hsz,ko]
    cases a.tmps[d]<;>rfl
   simp only[hy]
   split at h
   ·rename_i x hx
    exact tp
   ·rename_i hx
    exact tp
   ·cases h
  ·cases h
inductive HTr (P:Program) (ops:Array Oper) (σ:Store):List Oper->Fr->List AV->Fr->Prop where
 | nil (fr:Fr):HTr P ops σ [] fr [] fr
 | exec (o:nI) (r:List nI) (fr fr':Fr) (v:AV) (vs:List AV) (hg:gw ops o.guard fr=some true) (h:∀ σ',(RL o.op=true\/Xl σ σ')->AOp P o fr.ev σ' (ZP v σ')) (t:HTr P ops σ r (fr.putO o.dst v) vs fr'):HTr P ops σ (o::r) fr (v::vs) fr'
 | skip (o:nI) (r:List nI) (fr fr':Fr) (vs:List AV) (hg:gw ops o.guard fr=some false) (t:HTr P ops σ r (fr.putO o.dst (.val undef)) vs fr'):HTr P ops σ (o::r) fr (.val undef::vs) fr'
theorem HTr.len{P:nE}{ops:nN nI}{σ:Store}{l:List nI}{fr fr':Fr}{vs:List AV}(h:HTr P ops σ l fr vs fr'):vs.length=l.length:=by
 induction h with
 | nil=>rfl
 | exec _ _ _ _ _ _ _ _ _ ih=>simp[ih]
 | skip _ _ _ _ _ _ _ ih=>simp[ih]
theorem HTr.all{P:nE}{ops:nN nI}{σ:Store}{l:List nI}{fr fr':Fr}{vs:List AV}(h:HTr P ops σ l fr vs fr'):∀ s,ZD (fun _=>true) (l.zip vs) s fr=fr':=by
 induction h with
 | nil=>intro s;rfl
 | exec _ _ _ _ _ _ _ _ _ ih=>intro s;simp only[lW,ZD,iE];exact ih _
 | skip _ _ _ _ _ _ _ ih=>intro s;simp only[lW,ZD,iE];exact ih _
theorem HTr.at_{P:nE}{ops:nN nI}{σ:Store}{l:List nI}{fr fr':Fr}{vs:List AV}(h:HTr P ops σ l fr vs fr'):∀ (i:Nat) (o:nI) (v:AV),l[i]?=some o->vs[i]?=some v->∀ s,
 let fi:=ZD (fun _=>true) ((l.zip vs).take i) s fr
 (gw ops o.guard fi=some true/\∀ σ',(RL o.op=true\/Xl σ σ')->AOp P o fi.ev σ' (ZP v σ'))\/(gw ops o.guard fi=some false/\v=.val undef):=by
 induction h with
 | nil=>intro i o v ho;simp at ho
 | exec o r fr fr' v vs hg h t ih =>
   intro i p u hp hu s
   cases i with
   | zero=>simp at hp hu;subst hp;subst hu;exact .inl ⟨hg,h⟩
   | succ i=>simp only[lW,lh,ZD,iE];exact ih i p u xQ xP _
 | skip o r fr fr' vs hg t ih =>
   intro i p u hp hu s
   cases i with
   | zero=>simp at hp hu;subst hp;subst hu;exact .inr ⟨hg,rfl⟩
   | succ i=>simp only[lW,lh,ZD,iE];exact ih i p u xQ xP _
open Go.RowKit
theorem OO{α:Type}{p q:α->Bool}(h:∀ x,q x=true->p x=true):∀ l:List α,l.countP q<=l.countP p:=by
 intro l
 induction l with
 | nil=>exact kO _
 | cons x r ih =>
   simp only[List.countP_cons]
   by_cases hq:q x=true
   ·rw[gZ hq,gZ (h x hq)];omega
   ·rw[ig hq];omega
theorem ON{α:Type}{p q:α->Bool}(h:∀ x,q x=true->p x=true){i:α}(hp:p i=true)(hq:q i=false):∀ l:List α,i∈l->l.countP q<l.countP p:=by
 intro l
 induction l with
 | nil=>intro h;exact absurd h xf
 | cons x r ih =>
   intro hi
   simp only[List.countP_cons]
   rcases List.mem_cons.1 hi with e|e
   ·subst e
    rw[gZ hp,hq,ig xf]
    have:=OO h r
    omega
   ·have:=ih e
    by_cases hx:q x=true
    ·rw[gZ hx,gZ (h x hx)];omega
    ·rw[ig hx];omega
theorem Yl{ops:nN nI}{ls:nN Bool}{i:Nat}:i∈Region.ready .any ops ls↔i<ops.size/\ls.getD i true=false/\∃ o,ops[i]?=some o/\∀ e∈o.after.toList,Region.binds .any e=true->ls.getD e.on false=true:=by
 unfold Region.ready
 simp only[List.mem_filter,List.mem_range,kJ,lS]
 constructor
 ·rintro⟨h1,h2,h3⟩
  refine⟨h1,h2,ops[i],jK h1,fun e he hb=>?_⟩
  rw[jK h1] at h3
  simp only[jX,ko,Array.all_eq_true'] at h3
  have:=h3 e xN
  simpa[hb] using this
 ·rintro⟨h1,h2,o,ho,h3⟩
  refine⟨h1,h2,?_⟩
  rw[ho]
  simp only[jX,ko,Array.all_eq_true']
  intro e he
  by_cases hb:Region.binds .any e=true
  ·simp[hb,h3 e xN hb]
  ·simp[hb]
structure Lst (ops:Array Oper) (ls:Array Bool):Prop where
 size:ls.size=ops.size
 down:∀ (i:Nat) (o:nI) (e:Edge),ops[i]?=some o->ls.getD i false=true->e∈o.after.toList->Region.binds .any e=true->ls.getD e.on false=true
theorem Lst.bef{ops:nN nI}{ls:nN Bool}(h:Lst ops ls){k i:Nat}(hb:Bef ops k i):ls.getD i false=true->ls.getD k false=true:=by
 induction hb with
 | edge k i o e ho he hb hk=>intro hi;rw[<- hk];exact h.down i o e ho hi he hb
 | trans k j i _ _ ih1 ih2=>intro hi;exact ih2 (ih1 hi)
theorem Lst.bef_ready{ops:nN nI}{ls:nN Bool}(h:Lst ops ls){k i:Nat}(hb:Bef ops k i)(hi:i∈Region.ready .any ops ls):ls.getD k false=true:=by
 have hr:=(Yl.1 hi).2.2
 induction hb with
 | edge k i o e ho he hb hk =>
   obtain⟨o',ho',hr⟩:=hr
   rw[ho] at ho';injection ho' with ho';subst ho'
   rw[<- hk];exact hr e he hb
 | trans k j i h1 h2 ih1 ih2=>exact h.bef h2 (ih1 hi hr)
theorem ZM{ls:nN Bool}{i:Nat}(hi:i<ls.size)(j:Nat)(b:Bool):(ls.setIfInBounds i true).getD j b=if j=i then true else ls.getD j b:=by
 simp only[jO,lw]
 by_cases e:i=j
 ·subst e;simp[hi]
 ·rw[ig e,ig (iC e)]
theorem Lst.set{ops:nN nI}{ls:nN Bool}(h:Lst ops ls){i:Nat}(hi:i∈Region.ready .any ops ls):Lst ops (ls.setIfInBounds i true):=by
 obtain⟨h1,h2,o,ho,h3⟩:=Yl.1 hi
 have hs:i<ls.size:=by rw[h.size];exact h1
 refine⟨by simp[h.size],fun j p e hp hj he hb=>?_⟩
 rw[ZM hs] at hj ⊢
 by_cases e1:e.on=i
 ·rw[gZ e1]
 ·rw[ig e1]
  by_cases e2:j=i
  ·subst e2
   rw[ho] at hp;injection hp with hp;subst hp
   exact h3 e he hb
  ·rw[ig e2] at hj
   exact h.down j p e hp hj he hb
theorem Xj{ls:nN Bool}{i:Nat}(hi:i<ls.size):ls.getD i true=ls.getD i false:=by
 simp[jO,hi]
theorem XS{ops:nN nI}{m:Nat}{ls:nN Bool}(hd:Vk ops m)(h:Lst ops ls){j:Nat}(hj:j<ops.size)(hl:ls.getD j false=false):Region.ready .any ops ls≠[]:=by
 have key:∀ n j,j<=n->j<ops.size->ls.getD j false=false->∃ i,i∈Region.ready .any ops ls:=by
  intro n
  induction n with
  | zero =>
    intro j hj hs hl
    refine⟨j,Yl.2 ⟨hs,by rw[Xj ym];exact hl,ops[j],jK hs,fun e he hb=>?_⟩⟩
    have:=hd.down j _ e (jK hs) he hb
    omega
  | succ n ih =>
    intro j hj hs hl
    by_cases ha:∀ e∈ops[j].after.toList,Region.binds .any e=true->ls.getD e.on false=true
    ·exact tg
    ·have:∃ e,e∈ops[j].after.toList/\Region.binds .any e=true/\ls.getD e.on false=false:=by
      exact rS
     obtain⟨e,he,hb,hv⟩:=this
     have:=hd.down j _ e (jK hs) he hb
     exact ih e.on xh xh hv
 exact tq
theorem W2{P:nE}{ro:nM Nat}{mm:Nat}{ops:nN nI}{m:Nat}(hd:Vk ops m){Q:Exit->Act->nH->Prop}:∀ (fuel k:Nat) (ls:nN Bool) (a:Act) (w:nH),m<=k->Lst ops ls->(∀ j,j<ops.size->(ls.getD j false=true↔j<k))->ops.size<=k+fuel ->
 wpListIn (fen ro) mm P ops Q (ops.toList.drop k) a w->wpAnyIn (fen ro) mm P .any ops Q fuel ls a w:=by
 intro fuel
 induction fuel with
 | zero =>
   intro k ls a w hm hl hk hf h
   rw[jD (by simpa using hf)] at h
   refine⟨?_,h⟩
   apply List.eq_nil_iff_forall_not_mem.2
   intro i hi
   obtain⟨h1,h2,_⟩:=Yl.1 hi
   rw[Xj (by rw[hl.size];exact h1),(hk i h1).2 xh] at h2
   exact absurd h2 xf
 | succ fuel ih =>
   intro k ls a w hm hl hk hf h
   refine⟨fun hr=>?_,fun i hi=>?_⟩
   ·have:ops.size<=k:=by
     apply Nat.le_of_not_lt
     intro hlt
     refine XS hd hl hlt ?_ hr
     cases hv:ls.getD k false with
     | false=>rfl
     | true=>exact absurd ((hk k hlt).1 hv) xh
    rw[jD (by simpa using this)] at h
    exact h
   ·obtain⟨h1,h2,o,ho,h3⟩:=Yl.1 hi
    have hki:k<=i:=by
     apply Nat.le_of_not_lt
     intro hlt
     rw[Xj (by rw[hl.size];exact h1),(hk i h1).2 hlt] at h2
     exact absurd h2 xf
    have hik:i=k:=by
     apply Nat.le_antisymm _ hki
     apply Nat.le_of_not_lt
     intro hlt
     have:=hl.bef_ready (hd.tail i k xh h1 hlt) hi
     exact absurd ((hk k xh).1 this) xh
    subst hik
    have hdr:ops.toList.drop i=o::ops.toList.drop (i+1):=by
     rw[mw (by simpa using h1)]
     rw[jK h1] at ho
     injection ho with ho
     rw[<- ho];rfl
    rw[hdr] at h
    refine wh fun hs=>?_
    have nx:∀ a w,wpListIn (fen ro) mm P ops Q (ops.toList.drop (i+1)) a w->wpAnyIn (fen ro) mm P .any ops Q fuel (ls.setIfInBounds i true) a w:=fun a w hh =>
     ih (i+1) _ a w xh (hl.set hi) (fun j hj=>by
      rw[ZM hs]
      by_cases e:j=i
      ·subst e;simp
      ·rw[ig e,hk j hj];omega) xh hh
    unfold wpOpIn
    simp only[ho]
    simp only[wpListIn] at h
    split
    ·rename_i hw
     rw[gZ hw] at h
     exact Oper.wpIn_mono nx h
    ·rename_i hw
     rw[ig hw] at h
     exact⟨h.1,nx _ _ h.2⟩
theorem AOp.congr{P:nE}{o:nI}{ev ev':nJ->AV}{σ:Store}{K:ZE->Store->Prop}(h:AOp P o ev σ K)(he:∀ x∈o.op.operands.toList,ev x=ev' x):AOp P o ev' σ K :=
 fun a w hs hv next Q hn hp=>h a w hs (fun x hx=>by rw[he x hx];exact hv x hx) next Q hn hp
theorem XO{ops:nN nI}{o:nI}{fr fr':Fr}(h:∀ t∈YF ops o,fr t=fr' t):gw ops o.guard fr=gw ops o.guard fr':=by
 unfold gw
 cases hg:o.guard with
 | none=>rfl
 | some jw =>
   obtain⟨j,want⟩:=jw
   simp only
   cases hd:(ops[j]?).bind (·.dst) with
   | none=>rfl
   | some d =>
     simp only
     rw[h d (by simp[YF,hg,hd])]
theorem Vc{ops:nN nI}{o:nI}{fr fr':Fr}(h:∀ t∈YF ops o,fr t=fr' t):∀ x∈o.op.operands.toList,fr.ev x=fr'.ev x:=by
 intro x hx
 cases x with
 | tmp t =>
   refine h t ?_
   unfold YF
   refine my _ (my _ ?_)
   exact List.mem_filterMap.2 ⟨_,hx,rfl⟩
 | _=>rfl
theorem D4{α β:Type}{l:List α}{r:List β}{i:Nat}{a:α}{b:β}(ha:l[i]?=some a)(hb:r[i]?=some b):(l.zip r)[i]?=some (a,b):=by
 rw[mz];exact⟨ha,hb⟩
theorem Z6{α:Type}{l:List α}{i:Nat}{x:α}(h:l[i]?=some x):l=l.take i++x::l.drop (i+1):=by
 have hi:i<l.length:=by
  apply kP
  intro hle
  rw[jE hle] at h
  cases h
 have h2:=iO hi
 rw[h] at h2
 injection h2 with h2
 have h3:=mw hi
 rw[<- h2] at h3
 rw[<- h3,jl]
theorem L5{P:nE}{ro:nM Nat}{mm:Nat}{ops:nN nI}{m n:Nat}(hd:Vk ops m)(hB:∀ o∈ops.toList,opB n o=true){ds:List nK}{σ:Store}{fr0 fr1:Fr}{pv:List AV}
 (hT:HTr P ops σ (ops.toList.take m) fr0 pv fr1) {Q:Exit->Act->nH->Prop} {w0:nH}
 (hrest:∀ a w,YL n ds σ fr1 a w->Ev σ w0 σ w->wpListIn (fen ro) mm P ops Q (ops.toList.drop m) a w) :
 ∀ (fuel:Nat) (ls:nN Bool) (a:Act) (w:nH),Lst ops ls->(∀ j,m<=j->j<ops.size->ls.getD j false=false)->(List.range m).countP (fun i=>!ls.getD i false)+(ops.size-m)<=fuel ->
   YL n ds σ (ZD (fun i=>ls.getD i false) ((ops.toList.take m).zip pv) 0 fr0) a w->Ev σ w0 σ w->wpAnyIn (fen ro) mm P .any ops Q fuel ls a w:=by
 refine vC fun hdst=>?_
 have hlen:=hT.len
 have full:∀ (fuel:Nat) (ls:nN Bool) (a:Act) (w:nH),Lst ops ls->(∀ j,m<=j->j<ops.size->ls.getD j false=false)->(∀ j,j<m->ls.getD j false=true)->ops.size<=m+fuel ->
  YL n ds σ (ZD (fun i=>ls.getD i false) ((ops.toList.take m).zip pv) 0 fr0) a w->Ev σ w0 σ w->wpAnyIn (fen ro) mm P .any ops Q fuel ls a w:=by
  intro fuel ls a w hl hge hlt hf hc he
  have e1:ZD (fun i=>ls.getD i false) ((ops.toList.take m).zip pv) 0 fr0=fr1:=by
   rw[<- hT.all 0]
   funext t
   refine Yh _ _ _ _ rfl (fun k p hk=>.inl ?_)
   have:k<m:=by
    have:=(List.getElem?_eq_some_iff.1 hk).1
    simp only[mA,ip] at this
    omega
   simp only[jG]
   exact hlt k this
  exact ra
 intro fuel
 induction fuel with
 | zero =>
   intro ls a w hl hge hf hc he
   exact qx
 | succ fuel ih =>
   intro ls a w hl hge hf hc he
   by_cases hall:∀ j,j<m->ls.getD j false=true
   ·exact full (fuel+1) ls a w hl hge hall xh hc he
   ·have:∃ j,j<m/\ls.getD j false=false:=by
     exact pY
    obtain⟨j0,hj0,hl0⟩:=this
    refine⟨fun hr=>absurd hr (XS hd hl (jJ hj0 hd.le) hl0),fun i hi=>?_⟩
    obtain⟨h1,h2,o,ho,h3⟩:=Yl.1 hi
    refine wh fun hs=>?_
    rw[Xj hs] at h2
    have him:i<m:=by
     exact sJ
    have hoB:opB n o=true:=hB o yw
    have hot:(ops.toList.take m)[i]?=some o:=by rw[jF him];simpa using ho
    have hiv:i<pv.length:=by rw[hlen];exact(List.getElem?_eq_some_iff.1 hot).1
    have hv:pv[i]?=some pv[i]:=iO hiv
    generalize pv[i]=v at hv
    have hz:=D4 hot hv
    have hsp:=Z6 hz
    have hb:=hT.at_ i o v hot hv 0
    simp only at hb
    generalize hZ:(ops.toList.take m).zip pv=Z at hc hz hsp hb ih
    have hzk:∀ (k:Nat) (p:nI×AV),Z[k]?=some p->k<m/\ops[k]?=some p.1:=by
     intro k p hk
     rw[<- hZ] at hk
     rw[mz] at hk
     have hkm:k<m:=by
      have:=(List.getElem?_eq_some_iff.1 hk.1).1
      simp only[ip] at this
      omega
     rw[jF hkm] at hk
     exact⟨hkm,by simpa using hk.1⟩
    have hlt:(Z.take i).length=i:=by
     rw[ip]
     have:=(List.getElem?_eq_some_iff.1 hz).1
     omega
    have later:∀ (t:Nat),t∈YF ops o->∀ (k:Nat) (p:nI×AV),i<k->Z[k]?=some p->p.1.dst=some t->ls.getD k false=false:=by
     exact qo
    have earlier:∀ (t:Nat),t∈YF ops o->∀ (k:Nat) (p:nI×AV),k<i->Z[k]?=some p->p.1.dst=some t->ls.getD k false=true:=by
     intro t ht k p hik hk hpt
     obtain⟨hkm,hpk⟩:=hzk k p hk
     exact hl.bef_ready ((hd.clash i k o p.1 t him hkm xh ho hpk hpt ht).1 hik) hi
    have dropk:∀ (k:Nat) (p:nI×AV),(Z.drop (i+1))[k]?=some p->Z[i+1+k]?=some p:=by
     intro k p h;rwa [ku] at h
    have takek:∀ (k:Nat) (p:nI×AV),(Z.take i)[k]?=some p->k<i/\Z[k]?=some p:=by
     intro k p h
     have hk:k<i:=by have:=(List.getElem?_eq_some_iff.1 h).1;omega
     rw[jF hk] at h
     exact⟨hk,h⟩
    have agree:∀ t∈YF ops o,ZD (fun _=>true) (Z.take i) 0 fr0 t=ZD (fun i=>ls.getD i false) Z 0 fr0 t:=by
     intro t ht
     conv=>rhs;rw[hsp]
     rw[Xk,ZD,hlt,jG,h2]
     simp only[me,lJ]
     have e1:ZD (fun i=>ls.getD i false) (Z.drop (i+1)) (i+1) (ZD (fun i=>ls.getD i false) (Z.take i) 0 fr0) t=ZD (fun _=>false) (Z.drop (i+1)) (i+1) (ZD (fun i=>ls.getD i false) (Z.take i) 0 fr0) t:=by
      refine Yh _ _ _ _ rfl (fun k p hk=>?_)
      by_cases hpt:p.1.dst=some t
      ·exact .inl (later t ht _ p xh (dropk k p hk) hpt)
      ·exact .inr hpt
     rw[e1,XD]
     refine Yh _ _ _ _ rfl (fun k p hk=>?_)
     obtain⟨hki,hk⟩:=takek k p hk
     by_cases hpt:p.1.dst=some t
     ·refine .inl ?_
      simp only[jG]
      exact(earlier t ht k p hki hk hpt).symm
     ·exact .inr hpt
    have upd:∀ (u:AV),u=v->(ZD (fun k=>(ls.setIfInBounds i true).getD k false) Z 0 fr0)=(ZD (fun k=>ls.getD k false) Z 0 fr0).putO o.dst u:=by
     intro u hu
     subst hu
     funext t
     rw[Vo]
     by_cases hdt:o.dst=some t
     ·rw[gZ hdt]
      have ht:t∈YF ops o:=by simp[YF,hdt]
      conv=>lhs;rw[hsp]
      rw[Xk,ZD,hlt,jG,ZM hs]
      simp only[iE]
      generalize(ZD (fun k=>(ls.setIfInBounds i true).getD k false) (Z.take i) 0 fr0)=X
      have e1:ZD (fun k=>(ls.setIfInBounds i true).getD k false) (Z.drop (i+1)) (i+1) (X.putO o.dst u) t=ZD (fun _=>false) (Z.drop (i+1)) (i+1) (X.putO o.dst u) t:=by
       refine Yh _ _ _ _ rfl (fun k p hk=>?_)
       by_cases hpt:p.1.dst=some t
       ·refine .inl ?_
        rw[ZM hs,ig xh]
        exact later t ht _ p xh (dropk k p hk) hpt
       ·exact .inr hpt
      rw[e1,XD,Vo,gZ hdt]
     ·exact qI
    have hcnt:(List.range m).countP (fun k=>!(ls.setIfInBounds i true).getD k false)+(ops.size-m)<=fuel:=by
     have:=ON (p:=fun k=>!ls.getD k false) (q:=fun k=>!(ls.setIfInBounds i true).getD k false) (i:=i) (fun x hx=>by
      simp only[ZM hs,lS] at hx ⊢
      by_cases e:x=i
      ·rw[gZ e] at hx;cases hx
      ·rwa [ig e] at hx) (by simp only[h2];rfl) (by simp only[ZM hs];simp) (List.range m) (List.mem_range.2 him)
     omega
    have hge2:∀ j,m<=j->j<ops.size->(ls.setIfInBounds i true).getD j false=false:=fun j hj hjs=>by
     exact qS
    have nx:∀ (u:AV),u=v->∀ a' w',YL n ds σ ((ZD (fun k=>ls.getD k false) Z 0 fr0).putO o.dst u) a' w'->Ev σ w0 σ w'->wpAnyIn (fen ro) mm P .any ops Q fuel (ls.setIfInBounds i true) a' w':=by
     intro u hu a' w' hc' he'
     refine ih _ a' w' (hl.set hi) hge2 hcnt ?_ he'
     rw[upd u hu]
     exact hc'
    have hdo:=Xh hoB
    unfold wpOpIn
    simp only[ho]
    rcases hb with⟨hg,hop⟩|⟨hg,hvu⟩
    ·rw[XO agree] at hg
     refine ve fun hw=>?_
     rw[gZ hw]
     refine((hop σ (.inr (.refl σ))).congr (Vc agree)) a w hc.ok (fun x hx=>hc.fr.operand (X7 hoB x hx)) _ Q (fun av σ' u w' hk hu hs' he'=>?_) (fun pv σ' w' hk _ _=>?_) ro mm
     ·obtain⟨hk,rfl⟩:=hk
      injection hk with hk
      refine nx av hk _ _ ⟨?_,(hc.fr.ev he').put hdo hu,hs'⟩ (he.trans he')
      exact qG
     ·exact absurd hk.1 xf
    ·rw[XO agree] at hg
     refine ve fun hw=>?_
     refine vJ ?_
     refine⟨fun _ _=>trivial,?_⟩
     refine nx _ hvu.symm _ _ ⟨?_,hc.fr.put hdo (.val undef),hc.ok⟩ he
     exact qG
def kPs(k:Fr->Prop)(fr:Fr)(d:nM Nat):AV->Prop:=fun v=>k (fr.putO d v)
def C1(P:nE)(k:(Fr->Prop))(σ:Store)(o:nI):Fr->Prop:=fun fr=>ZN P fr.ev σ (kPs k fr o.dst) o.op
def Iv(k:(Fr->Prop))(d:nM Nat):Fr->Prop:=fun fr=>k (fr.putO d (.val undef))
def Po(P:nE)(ops:nN nI)(σ:Store)(R:Fr->Prop):List nI->Fr->Prop
 | [],fr=>R fr
 | o::r,fr=>XV ops o.guard fr (C1 P (Po P ops σ R r) σ o) (Iv (Po P ops σ R r) o.dst)
theorem MA{fr:Fr}{d:Nat}{v:AV}(h:fr d=v):fr.put d v=fr:=by
 funext i;simp only[Fr.put];by_cases e:i=d
 ·rw[gZ e,e,h]
 ·rw[ig e]
theorem OR{ops:nN nI}{g:nM (Nat×Bool)}{fr:Fr}{A B:Fr->Prop}(h:XV ops g fr A B):(gw ops g fr=some true/\A fr)\/(gw ops g fr=some false/\B fr):=by
 unfold XV at h
 unfold gw
 split at h
 ·exact .inl ⟨rfl,h⟩
 ·rename_i j want
  split at h
  ·rename_i d hd
   try simp only[hd]
   split at h
   ·rename_i x hx
    simp only[hx]
    by_cases e:x=want
    ·subst e;have:=h.1 rfl;rw[MA hx] at this;exact .inl ⟨by simp,this⟩
    ·have e2:x=!want:=by cases x<;>cases want<;>simp_all
     subst e2
     have:=h.2 rfl
     rw[MA hx] at this
     refine .inr ⟨?_,this⟩
     cases want<;>rfl
   ·rename_i hx
    simp only[hx]
    exact .inr ⟨trivial,h⟩
   ·exact h.elim
  ·exact h.elim
theorem UZ{P:nE}{ops:nN nI}{σ:Store}{R:Fr->Prop}:∀ (l:List nI) (fr:Fr),Po P ops σ R l fr->∃ pv fr',HTr P ops σ l fr pv fr'/\R fr':=by
 intro l
 induction l with
 | nil=>intro fr h;exact⟨[],fr,.nil fr,h⟩
 | cons o r ih =>
   intro fr h
   rcases OR h with⟨hg,h⟩|⟨hg,h⟩
   ·obtain⟨v,hv,hop⟩:=Kr h
    obtain⟨pv,fr',ht,hr⟩:=ih _ hv
    exact⟨v::pv,fr',.exec o r fr fr' v pv hg hop ht,hr⟩
   ·obtain⟨pv,fr',ht,hr⟩:=ih _ h
    exact⟨_::pv,fr',.skip o r fr fr' pv hg ht,hr⟩
theorem getD_none(n i:Nat):(Array.replicate n false).getD i false=false:=by
 simp only[jO,jR]
 by_cases h:i<n<;>simp[h]
def RB(P:nE)(n:Nat)(ds:List nK)(ops:nN nI)(Q:Exit->Fr->Store->Prop)(fr:Fr)(σ:Store):Prop :=
 ∀ a w,YL n ds σ fr a w->∀ Q':Exit->Act->nH->Prop,(∀ e fr' σ' a' w',Q e fr' σ'->YL n ds σ' fr' a' w'->Ev σ w σ' w'->Q' e a' w')->∀ ro mm,wpAnyIn (fen ro) mm P .any ops Q' ops.size (Array.replicate ops.size false) a { w with drawn:=w.drawn+1 }
theorem RB.awp{P:nE}{n:Nat}{ds:List nK}{id:Nat}{ops:nN nI}{Q:Exit->Fr->Store->Prop}{fr:Fr}{σ:Store}(hm:P.follows .mixedOrders=true)(h:RB P n ds ops Q fr σ):AWp P n ds (.region id ops true) Q fr σ :=
 fun a w hc Q' hq ro m=>mB hm (h a w hc Q' hq ro m)
theorem ca{P:nE}{n:Nat}{ds:List nK}{mu:List Nat}{ops:nN nI}{Q:Exit->Fr->Store->Prop}{fr:Fr}{σ:Store}(m:Nat)(hc:TH ops m=true)(hB:ops.toList.all (opB n)=true)
 (h:Po P ops σ (fun fr=>XU P mu ops (ops.toList.drop m) Q fr σ) (ops.toList.take m) fr):RB P n ds ops Q fr σ:=by
 intro a w hcf Q' hq ro mm
 obtain⟨pv,fr1,hT,hrest⟩:=UZ _ _ h
 have hd:=Ve hc
 have hBl:=List.all_eq_true.1 hB
 have hev:=Ev.drew σ w
 refine(L5 hd hBl hT (w0:=w) (fun a' w' hc' he'=>XT (YR hB) _ (fun o ho=>hBl o (iX ho)) fr1 σ a' w' hrest hc' (fun e fr' σ' a'' w'' q c v=>hq e fr' σ' a'' w'' q c (he'.trans v)) ro mm) ops.size _ a _ ?_ ?_ ?_ ?_ hev)
 ·refine⟨by simp,fun i o e ho hi=>?_⟩
  rw[getD_none] at hi
  cases hi
 ·intro j _ _
  exact getD_none _ _
 ·have h1:(List.range m).countP (fun i=>!(Array.replicate ops.size false).getD i false)<=m:=by
   have:=List.countP_le_length (p:=fun i=>!(Array.replicate ops.size false).getD i false) (l:=List.range m)
   simpa using this
  have:=hd.le
  omega
 ·have e:ZD (fun i=>(Array.replicate ops.size false).getD i false) ((ops.toList.take m).zip pv) 0 fr=fr:=by
   have e1:(fun i=>(Array.replicate ops.size false).getD i false)=fun _=>false:=by
    funext i
    exact getD_none _ _
   rw[e1,XD]
  rw[e]
  exact⟨hcf.defers,hcf.fr.ev hev,hcf.ok.drew⟩
end Go.Vx
end
