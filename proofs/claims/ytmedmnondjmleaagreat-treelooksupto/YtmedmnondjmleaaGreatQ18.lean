/- Part Q18 of the proof of treeLooksProved: the walk of the program on abstract values, and the plain law. -/
import Derived.Test.YtmedmnondjmleaaGreatQ14
import Derived.Test.YtmedmnondjmleaaGreatQ17
set_option linter.unusedVariables false
set_option linter.unusedSimpArgs false
set_option maxRecDepth 100000
namespace Go.Vx
open Go.Proofs
theorem Ul:(ZJ (Tryz.prog.underlying 20)=true)∧((Tryz.prog.underlying 313).isSome=true)∧(ZJ (Tryz.prog.underlying 313)=false)∧(Zl Tryz.prog 313=some (.agg #[(.int .i64 0),(.int .i64 0)]))∧(Zh Tryz.prog 313=some 2)∧(Zz Tryz.prog 313 0=some 0)∧(Zh Tryz.prog 3=some 1)∧(Ze Tryz.prog 3=some false)∧(Zz Tryz.prog 313 1=some 1)∧(Zh Tryz.prog 40=some 1)∧(Ze Tryz.prog 40=some false)∧(Zh Tryz.prog 307=some 1):=by
 refine ⟨?_,?_,?_,?_,?_,?_,?_,?_,?_,?_,?_,?_⟩<;>first | trivial | kernel_rfl
theorem Bl:(True):=by
 first | trivial | kernel_rfl
theorem Yi:(Zh Tryz.prog 9=some 1)∧(Ze Tryz.prog 9=some false)∧(Zl Tryz.prog 203=some (.agg #[(.int .i64 0),(.string ⟨#[]⟩),(.int .i64 0)]))∧(Zh Tryz.prog 203=some 3)∧(Zl Tryz.prog 313=some (.agg #[(.int .i64 0),(.int .i64 0)]))∧(Yx Tryz.prog 313=some [(0,1),(1,1)])∧((Tryz.prog.underlying 313).isSome=true)∧(ZJ (Tryz.prog.underlying 313)=false)∧(Zz Tryz.prog 203 0=some 0)∧(Zh Tryz.prog 3=some 1)∧(Ze Tryz.prog 3=some false)∧(Zz Tryz.prog 203 1=some 1)∧(Ze Tryz.prog 203=some true)∧(Tryz.prog.underlying 9=some .string):=by
 refine ⟨?_,?_,?_,?_,?_,?_,?_,?_,?_,?_,?_,?_,?_,?_⟩<;>first | trivial | kernel_rfl
theorem Wu:(Zl Tryz.prog 307=some (.slice none 0 0))∧(Zl Tryz.prog 3=some (.int .i64 0))∧(Zl Tryz.prog 40=some (.int .i64 0))∧(Zh Tryz.prog 307=some 1)∧(Zh Tryz.prog 3=some 1)∧(Zh Tryz.prog 40=some 1)∧(Zl Tryz.prog 203=some (.agg #[(.int .i64 0),(.string ⟨#[]⟩),(.int .i64 0)]))∧(Zh Tryz.prog 203=some 3)∧(Ze Tryz.prog 307=some false)∧(Ze Tryz.prog 203=some true)∧(ZA Tryz.prog 307=some 203)∧(Ze Tryz.prog 3=some false)∧(Ze Tryz.prog 40=some false)∧(Tryz.prog.underlying 9=some .string)∧(ZQ Tryz.prog 203=some 32):=by
 refine ⟨?_,?_,?_,?_,?_,?_,?_,?_,?_,?_,?_,?_,?_,?_,?_⟩<;>first | trivial | kernel_rfl
def N2 (a e:Int):Value:=.iface 313 (.agg #[.int .i64 a,.int .i64 e])
theorem LL (b2 b3 b4:Nat)(σ:Store)(K:Store→Prop)(hK:K σ):Vr Tryz.prog 273 [.pointer (some ⟨b2,0,none⟩),.pointer (some ⟨b3,0,none⟩),.pointer (some ⟨b4,0,none⟩)] .returning .returning σ K:=by
 refine Lc [] .none Tryz.func273 rfl 6 rfl (by kernel_rfl) ?_
 rw [Tryz.ntmps273]
 refine iM ?_
 refine .seq (ZD (mu:=[]) (dr:=[]) (by kernel_rfl) _ (by kernel_rfl) _ _ _ ?_)
 refine iM ?_
 refine .cond rfl false (by try simp only [go_sem,seval,Ul]) (fun h=>by cases h) (fun _=>.skip ?_)
 refine iM ?_
 exact ⟨_,.refl _,hK⟩
theorem LK (b2 b3 b4:Nat)(a e:Int)(x2:AV)(x3 x4:AV)(σ:Store)(n23:b2≠b3)(n24:b2≠b4)(n34:b3≠b4)(g2:σ.get b2=some (.cells [x2]))(g3:σ.get b3=some (.cells [x3]))(g4:σ.get b4=some (.cells [x4]))(K:Store→Prop)
 (hK:K (((σ.set b2 (.cells [.list .full 0 []])).set b3 (.cells [vi a])).set b4 (.cells [vi e]))):Vr Tryz.prog 273 [.pointer (some ⟨b2,0,none⟩),.pointer (some ⟨b3,0,none⟩),.pointer (some ⟨b4,0,none⟩)] (.panicking [{ v:=N2 a e,recovered:=false }]) (.panicking [{ v:=N2 a e,recovered:=true }]) σ K:=by
 refine Lc [4] (.some _) Tryz.func273 rfl 6 rfl (by kernel_rfl) ?_
 rw [Tryz.ntmps273]
 try simp only [go_sem,seval,Ul,N2]
 refine .seq (ZD (mu:=[]) (dr:=[]) (by kernel_rfl) _ (by kernel_rfl) _ _ _ ?_)
 refine iM ?_
 refine .cond rfl true (by try simp only [go_sem,seval,Ul]) (fun _=>?_) (fun h=>by cases h)
 refine .seq (ZD (mu:=[]) (dr:=[]) (by kernel_rfl) _ (by kernel_rfl) _ _ _ ?_)
 refine iM ?_
 intro b9 hb9
 refine iM ?_
 refine .seq (ZD (mu:=[]) (dr:=[]) (by kernel_rfl) _ (by kernel_rfl) _ _ _ ?_)
 refine iM ?_
 refine .ord (mu:=[]) 0 (.alt 1 (.alt 2 (.alt 3 (.alt 4 (.alt 5 (.alt 6 .done .done) .done) .done) (.alt 4 (.alt 3 (.alt 5 (.alt 6 .done .done) .done) (.alt 5 (.alt 3 (.alt 6 .done .done) .done) .done)) .done)) (.alt 4 (.alt 2 (.alt 3 (.alt 5 (.alt 6 .done .done) .done) (.alt 5 (.alt 3 (.alt 6 .done .done) .done) .done)) (.alt 5 (.alt 2 (.alt 3 (.alt 6 .done .done) .done) .done) .done)) .done)) (.alt 2 (.alt 1 (.alt 3 (.alt 4 (.alt 5 (.alt 6 .done .done) .done) .done) (.alt 4 (.alt 3 (.alt 5 (.alt 6 .done .done) .done) (.alt 5 (.alt 3 (.alt 6 .done .done) .done) .done)) .done)) (.alt 3 (.alt 1 (.alt 4 (.alt 5 (.alt 6 .done .done) .done) .done) (.alt 4 (.alt 1 (.alt 5 (.alt 6 .done .done) .done) .done) .done)) (.alt 4 (.alt 1 (.alt 3 (.alt 5 (.alt 6 .done .done) .done) (.alt 5 (.alt 3 (.alt 6 .done .done) .done) .done)) (.alt 3 (.alt 1 (.alt 5 (.alt 6 .done .done) .done) .done) .done)) .done))) (.alt 4 (.alt 1 (.alt 2 (.alt 3 (.alt 5 (.alt 6 .done .done) .done) (.alt 5 (.alt 3 (.alt 6 .done .done) .done) .done)) (.alt 5 (.alt 2 (.alt 3 (.alt 6 .done .done) .done) .done) .done)) (.alt 2 (.alt 1 (.alt 3 (.alt 5 (.alt 6 .done .done) .done) (.alt 5 (.alt 3 (.alt 6 .done .done) .done) .done)) (.alt 3 (.alt 1 (.alt 5 (.alt 6 .done .done) .done) .done) .done)) .done)) .done))) (.alt 2 (.alt 0 (.alt 1 (.alt 3 (.alt 4 (.alt 5 (.alt 6 .done .done) .done) .done) (.alt 4 (.alt 3 (.alt 5 (.alt 6 .done .done) .done) (.alt 5 (.alt 3 (.alt 6 .done .done) .done) .done)) .done)) (.alt 3 (.alt 1 (.alt 4 (.alt 5 (.alt 6 .done .done) .done) .done) (.alt 4 (.alt 1 (.alt 5 (.alt 6 .done .done) .done) .done) .done)) (.alt 4 (.alt 1 (.alt 3 (.alt 5 (.alt 6 .done .done) .done) (.alt 5 (.alt 3 (.alt 6 .done .done) .done) .done)) (.alt 3 (.alt 1 (.alt 5 (.alt 6 .done .done) .done) .done) .done)) .done))) (.alt 3 (.alt 0 (.alt 1 (.alt 4 (.alt 5 (.alt 6 .done .done) .done) .done) (.alt 4 (.alt 1 (.alt 5 (.alt 6 .done .done) .done) .done) .done)) (.alt 4 (.alt 0 (.alt 1 (.alt 5 (.alt 6 .done .done) .done) .done) .done) .done)) (.alt 4 (.alt 0 (.alt 1 (.alt 3 (.alt 5 (.alt 6 .done .done) .done) (.alt 5 (.alt 3 (.alt 6 .done .done) .done) .done)) (.alt 3 (.alt 1 (.alt 5 (.alt 6 .done .done) .done) .done) .done)) (.alt 3 (.alt 0 (.alt 1 (.alt 5 (.alt 6 .done .done) .done) .done) .done) .done)) .done))) (.alt 4 (.alt 0 (.alt 1 (.alt 2 (.alt 3 (.alt 5 (.alt 6 .done .done) .done) (.alt 5 (.alt 3 (.alt 6 .done .done) .done) .done)) (.alt 5 (.alt 2 (.alt 3 (.alt 6 .done .done) .done) .done) .done)) (.alt 2 (.alt 1 (.alt 3 (.alt 5 (.alt 6 .done .done) .done) (.alt 5 (.alt 3 (.alt 6 .done .done) .done) .done)) (.alt 3 (.alt 1 (.alt 5 (.alt 6 .done .done) .done) .done) .done)) .done)) (.alt 2 (.alt 0 (.alt 1 (.alt 3 (.alt 5 (.alt 6 .done .done) .done) (.alt 5 (.alt 3 (.alt 6 .done .done) .done) .done)) (.alt 3 (.alt 1 (.alt 5 (.alt 6 .done .done) .done) .done) .done)) (.alt 3 (.alt 0 (.alt 1 (.alt 5 (.alt 6 .done .done) .done) .done) .done) .done)) .done)) .done)) (by kernel_rfl) (by kernel_rfl) (by kernel_rfl) ?_
 have s2:(σ.get b2).isSome=true:=by rw [g2];rfl
 have s3:(σ.get b3).isSome=true:=by rw [g3];rfl
 have s4:(σ.get b4).isSome=true:=by rw [g4];rfl
 have k:∃ σ',Sub σ' ((b9,AObj.cells [vi a,vi e])::((σ.set b2 (.cells [.list .full 0 []])).set b3 (.cells [vi a])).set b4 (.cells [vi e]))∧K σ':=⟨_,.cons _ _,hK⟩
 have fs:∀ (b:Nat) (y:AObj),Zx (σ.set b y) b9=Zx σ b9:=fun b y=>XF
 have fs2:∀ (b c:Nat) (y z:AObj),Zx ((σ.set b y).set c z) b9=Zx σ b9:=fun b c y z=>by rw [XF,XF]
 try simp only [go_sem,seval,Ul,U6,ZU,CY,Z4,Yp,hb9,g2,g3,g4,n23,n24,n34,Ne.symm n23,Ne.symm n24,Ne.symm n34,fs,fs2,Option.isSome_map,Option.map_some]
 repeat' first | exact k | apply And.intro
def YR (P:Program)(l:Nat)(tv:AV)(S:Store)(K:Store→Prop):Prop :=
 ∃ (r:Loop) (p id1 id2 id3:Nat) (la lb:List Oper) (mu2:List Nat) (Q1 Q2:Exit→Fr→Store→Prop),S.get l=some (.raw (.loop r))∧r.params=#[p]∧r.assign=.region id1 ⟨la⟩ false∧r.body=.block id2 (.region id3 ⟨lb⟩ false)∧r.state=.ready∧r.pending=none ∧
   (la.all (opB r.tmps.size)&&lb.all (opB r.tmps.size)&&la.all Xl&&lb.all Xl&&decide (p<r.tmps.size))=true∧(∀ e fr σ,Q1 e fr σ→e=.normal)∧(∀ e fr σ,Q2 e fr σ→e=.normal) ∧
   Y7 P mu2 ⟨la⟩ la Q1 ((dG r.tmps).put p tv) S ∧
   (∀ fr' σ',Q1 .normal fr' σ'→σ'.get l=some (.raw (.loop r))∧Y7 P mu2 ⟨lb⟩ lb Q2 fr' (σ'.set l (.raw (.loop { r with state:=.busy })))) ∧
   (∀ fr2 σ2,Q2 .normal fr2 σ2→σ2.get l=some (.raw (.loop { r with state:=.busy }))∧K (σ2.set l (.raw (.loop r))))
theorem NK.of {P:Program}{mu:List Nat}{ops:Array Oper}{post:List Oper}{Q:Exit→Fr→Store→Prop}{j t:Nat}{d:Option Nat}{fr1:Fr}{σ1:Store}(l:Nat)(h1:fr1 j=.val (.func (.yield l) #[] #[]))
 (h:YR P l (fr1 t) σ1 (fun σ'=>Y7 P mu ops post (fun e fr σ=>e=.normal∧Q .normal fr σ) (fr1.putO d (.val (.bool true))) σ')):NK P mu ops post Q j t d .normal fr1 σ1:=by
 obtain ⟨r,p,id1,id2,id3,la,lb,mu2,Q1,Q2,a1,a2,a3,a4,a5,a6,a7,a8,a9,a10,a11,a12⟩:=h
 exact ⟨rfl,l,r,p,id1,id2,id3,la,lb,mu2,Q1,Q2,h1,a1,a2,a3,a4,a5,a6,a7,a8,a9,a10,a11,a12⟩
theorem YR.mono {P:Program}{l:Nat}{tv tv':AV}{S:Store}{K K':Store→Prop}(e:tv=tv')(h:YR P l tv' S K')(k:∀ S',K' S'→K S'):YR P l tv S K:=by
 subst e
 obtain ⟨r,p,id1,id2,id3,la,lb,mu2,Q1,Q2,a1,a2,a3,a4,a5,a6,a7,a8,a9,a10,a11,a12⟩:=h
 exact ⟨r,p,id1,id2,id3,la,lb,mu2,Q1,Q2,a1,a2,a3,a4,a5,a6,a7,a8,a9,a10,a11,fun fr2 σ2 q=>⟨(a12 fr2 σ2 q).1,k _ (a12 fr2 σ2 q).2⟩⟩
theorem I3 (P:Program)(rs:List ResultVar)(R:ZO→Store→Prop)(fr:Fr)(σ:Store):Uy P rs R .normal [] fr σ=XM P rs R fr σ:=propext Iff.rfl
theorem UP (P:Program)(rs:List ResultVar)(R:ZO→Store→Prop)(pv:Value)(fr:Fr)(σ:Store):Uy P rs R (.panic [{ v:=pv,recovered:=false }]) [] fr σ=HX R pv σ:=by
 simp only [Uy,eq_iff_iff]
 constructor
 ·rintro ⟨x,hx,h⟩
  injection hx with hx _
  injection hx with hx
  subst hx
  exact h
 ·intro h;exact ⟨_,rfl,h⟩
abbrev Tok:=Int×Str×Int
def tkE (t:Tok):List AV:=[vi t.1,vs t.2.1,vi t.2.2]
def WF (l:List Tok):List (List AV):=l.map tkE
def SX (s:Str):Nat→Nat→Nat→Sum (Int×Int) (List Tok)
 | 0,_,_=>.inr []
 | f + 1,a,many=>if a<s.size then
     (match Yg (s.extract a s.size) with
     | none=>.inl (a,10)
     | some (k,n)=>if many=6000 then .inl (a,2) else if (k=1∨k=2)∧40<((s.extract a s.size).extract 0 n).size then .inl (a,11) else
       match SX s f (XG s (s.size+1) (a+((s.extract a s.size).extract 0 n).size)) (many+1) with
       | .inl e=>.inl e
       | .inr l=>.inr ((k,(s.extract a s.size).extract 0 n,(a:Int))::l))
   else .inr []
def EG (acc:List Tok):Sum (Int×Int) (List Tok)→Sum (Int×Int) (List Tok)
 | .inl e=>.inl e
 | .inr l=>.inr (acc++l)
def R5 (s:Str):Sum (Int×Int) (List Tok):=SX s (s.size+1) (XG s (s.size+1) 0) 0
theorem TF (s:Str):∀ f a,a≤s.size→a≤XG s f a∧XG s f a≤s.size:=by
 intro f
 induction f with
 | zero=>intro a h;exact ⟨Nat.le_refl _,h⟩
 | succ f ih =>
   intro a h
   rw [XG]
   split
   ·rename_i hlt
    split
    ·have:=ih (a+1) (by omega);omega
    ·split
     ·rename_i h37
      split
      ·rename_i h0
       have h1:=JA s a hlt h37 h0
       have:=ih (a+(Qe s a).toNat) (by omega);omega
      ·have:=ih s.size (Nat.le_refl _);omega
     ·omega
   ·omega
theorem L9:∀ k:Fin 26,bAt Wr k.val=97+(k.val:Int):=by decide
theorem Mp:∀ k:Fin 26,bAt Wr (26+k.val)=65+(k.val:Int):=by decide
theorem Ck {x:Int}(h:Nc x):Qr x=true:=by
 unfold Qr
 rw [decide_eq_true_eq]
 refine ⟨(x-97).toNat,?_,?_,?_⟩
 ·show _<64;unfold Nc at h;omega
 ·show _<64;unfold Nc at h;omega
 ·have:=L9 ⟨(x-97).toNat,by unfold Nc at h;omega⟩
  rw [this];unfold Nc at h;simp only;omega
theorem FC {x:Int}(h:Qw x):Qr x=true:=by
 unfold Qr
 rw [decide_eq_true_eq]
 refine ⟨26+(x-65).toNat,?_,?_,?_⟩
 ·show _<64;unfold Qw at h;omega
 ·show _<64;unfold Qw at h;omega
 ·have:=Mp ⟨(x-65).toNat,by unfold Qw at h;omega⟩
  rw [this];unfold Qw at h;simp only;omega
theorem Js (r:Str)(h:0<r.size)(hb:Qr (bAt r 0)=true):1≤Vm r (r.size+1) 0:=by
 rw [Vm,if_pos ⟨h,hb⟩]
 exact (VQ r r.size 1 (by omega)).1
theorem DD (r:Str)(h:0<r.size)(k:Int)(n:Nat)(ht:Yg r=some (k,n)):1≤n∧n≤r.size:=by
 unfold Yg at ht
 split at ht
 ·rename_i hs
  have h1:=Js r h (Ck hs)
  have h2:=VQ r (r.size+1) 0 (by omega)
  have hN:1≤Ti r∧Ti r≤r.size:=by
   unfold Ti
   split
   ·rename_i hc
    have:=VQ r (r.size+1) (Vm r (r.size+1) 0+1) (by omega)
    omega
   ·omega
  split at ht
  ·rename_i ho;injection ht with ht;injection ht with a b;omega
  ·split at ht<;>(injection ht with ht;injection ht with a b;omega)
 ·split at ht
  ·rename_i hc
   injection ht with ht;injection ht with a b
   have h1:=Js r h (FC hc)
   have h2:=VQ r (r.size+1) 0 (by omega)
   omega
  ·split at ht
   ·rename_i hp
    injection ht with ht;injection ht with a b
    have:2≤r.size:=by rcases hp with hp | hp | hp<;>exact hp.1
    omega
   ·split at ht
    ·rename_i hp
     have:2≤r.size:=hp.1
     split at ht
     ·injection ht with ht;injection ht with a b;omega
     ·cases ht
    ·split at ht
     ·injection ht with ht;injection ht with a b;omega
     ·cases ht
theorem H6 (s:Str)(σ:Store)(R:ZO→Store→Prop)(h:∀ b,Zx σ b→R (.ret (.val (.func (.func 275) #[] #[.pointer (some ⟨b,0,none⟩)]))) ((b,.cells [vs s])::σ)):Zj Tryz.prog 274 [vs s] σ R:=by
 refine Zc [1] [] Tryz.func274 rfl (by kernel_rfl) ?_;rw [Tryz.ntmps274,Tryz.results274]
 try simp only [go_sem,seval,Bl]
 intro b hb
 try simp only [go_sem,seval,Bl]
 exact .mk (.refl _) (.refl _) (h b hb)
theorem az (s:Str)(hsz:s.size≤20000)(l b1:Nat)(Pp:List Tok→Store→Prop)(hY:∀ acc S tok,acc.length≤6000→Pp acc S→YR Tryz.prog l (.agg (tkE tok)) S (fun S'=>Pp (acc++[tok]) S'∧∀ b t,S.get b=some (.cells (tkE t))→S'.get b=some (.cells (tkE t))))
 (hcons:∀ acc S b x,Pp acc S→Zx S b→Pp acc ((b,x)::S)) (hb1:∀ acc S,Pp acc S→S.get b1=some (.cells [vs s])) (S0:Store) (h0:Pp [] S0) :
 Zj Tryz.prog 275 [.val (.func (.yield l) #[] #[]),.val (.pointer (some ⟨b1,0,none⟩))] S0
  (fun res S'=>∃ acc,Pp acc S'∧match R5 s with | .inr toks=>res=.ret (.tup [])∧acc=toks | .inl (a,e)=>res=.pan (N2 a e)):=by
 refine W3 Tryz.func275 rfl (by kernel_rfl) (.of ?_)
 rw [Tryz.ntmps275,Tryz.results275]
 refine .seq (ZD (mu:=[]) (dr:=[]) (by kernel_rfl) _ (by kernel_rfl) _ _ _ ?_)
 refine eX ?_
 have g1:=hb1 _ _ h0
 refine .seq (ZD (mu:=[]) (dr:=[]) (by kernel_rfl) _ (by kernel_rfl) _ _ _ ?_)
 try simp only [go_sem,seval,Yi,g1]
 refine (OP s 0 hsz).use ?_
 refine eX ?_
 have hk0:=TF s (s.size+1) 0 (by omega)
 refine .block (.loopT [3,4,5,6,9,10,11,12,13,14,15,16,17,18,19,20,21,22,23,24,25,26,27,28,29,30,31,32,33,34,35,36,37,38,39,40,41,42,43,44,45,46,47,48,49,50,51,52,53,54,55,56,57,58,59,60,61] (fun x:Nat×Nat×List Tok×Store=>[(4,vi x.1),(3,vi x.2.1)]) (fun x=>x.2.2.2) (fun x=>x.1≤s.size∧x.2.1≤6000∧x.2.2.1.length=x.2.1∧Pp x.2.2.1 x.2.2.2∧∃ f,s.size-x.1<f∧EG x.2.2.1 (SX s f x.1 x.2.1)=R5 s)
  (fun x=>s.size-x.1) (XG s (s.size+1) 0,0,[],S0) ⟨hk0.2,by simp,rfl,h0,s.size+1,by dsimp only;omega,by simp only [R5];generalize SX s (s.size+1) (XG s (s.size+1) 0) 0=q;cases q<;>rfl⟩ ⟨.refl _,.refl _,trivial⟩ (.refl _) ?_)
 rintro ⟨a,m,acc,S⟩ ⟨ha,hm,hl,hP,f,hf,hc⟩
 dsimp only at ha hm hl hP hf hc ⊢
 have g1:=hb1 _ _ hP
 obtain ⟨f,rfl⟩:∃ g,f=g+1:=⟨f-1,by omega⟩
 rw [SX] at hc
 refine .seq (ZD (mu:=[]) (dr:=[]) (by kernel_rfl) _ (by kernel_rfl) _ _ _ ?_)
 try simp only [go_sem,seval,Yi,g1]
 refine ⟨fun hlt=>?_,fun hlt=>?_⟩
 ·have hlt:a<s.size:=by omega
  rw [if_pos hlt] at hc
  refine .block (.seq (ZD (mu:=[]) (dr:=[]) (by kernel_rfl) _ (by kernel_rfl) _ _ _ ?_))
  try simp only [go_sem,seval,Yi,g1]
  refine (DC s a hlt hsz).use ?_
  obtain ⟨r,hr⟩:∃ r:Str,r=s.extract a s.size:=⟨_,rfl⟩
  have hrs:r.size=s.size-a:=by rw [hr];simp [ByteArray.size_extract]
  rw [← hr] at hc ⊢
  cases ht:Yg r with
  | none =>
    rw [ht] at hc
    have hv:Y9 r a=.tup [.agg [vi 0,vs { data:=#[] },vi 0],vb false]:=by simp only [Y9,ht]
    rw [hv]
    refine eX ?_
    intro b5 hb5
    refine eX ?_
    refine .seq (ZD (mu:=[]) (dr:=[]) (by kernel_rfl) _ (by kernel_rfl) _ _ _ ?_)
    try simp only [go_sem,seval,Yi,UP]
    refine .mk (.cons _ _) ⟨acc,hP,?_⟩
    rw [← hc];rfl
  | some kn =>
    obtain ⟨k,n⟩:=kn
    have hn:=DD r (by omega) k n ht
    rw [ht] at hc
    dsimp only at hc
    obtain ⟨x,hx⟩:∃ x:Str,x=r.extract 0 n:=⟨_,rfl⟩
    have hxs:x.size=n:=by rw [hx];simp [ByteArray.size_extract];omega
    rw [← hx] at hc
    have hv:Y9 r a=.tup [.agg [vi k,vs x,vi a],vb true]:=by simp only [Y9,ht,hx]
    rw [hv]
    refine eX ?_
    intro b5 hb5
    refine eX ?_
    refine .seq (ZD (mu:=[]) (dr:=[]) (by kernel_rfl) _ (by kernel_rfl) _ _ _ ?_)
    by_cases h6:m=6000
    ·rw [if_pos h6] at hc
     have h6':((m:Int)=6000)=True:=eq_true (by omega)
     try simp only [go_sem,seval,Yi,UP,h6',decide_true]
     refine .mk (.cons _ _) ⟨acc,hP,?_⟩
     rw [← hc];rfl
    ·rw [if_neg h6] at hc
     have h6':((m:Int)=6000)=False:=eq_false (by omega)
     by_cases h40:(k=1∨k=2)∧40<x.size
     ·rw [if_pos h40] at hc
      have hb40:((40:Int)<(x.size:Int))=True:=eq_true (by omega)
      rcases h40.1 with rfl | rfl
      ·try simp only [go_sem,seval,Yi,UP,h6',decide_false,hb40,decide_true]
       refine .mk (.cons _ _) ⟨acc,hP,?_⟩
       rw [← hc];rfl
      ·try simp only [go_sem,seval,Yi,UP,h6',decide_false,hb40,decide_true]
       refine .mk (.cons _ _) ⟨acc,hP,?_⟩
       rw [← hc];rfl
     ·rw [if_neg h40] at hc
      by_cases hk:k=1∨k=2
      ·have hb40:((40:Int)<(x.size:Int))=False:=eq_false (fun h=>h40 ⟨hk,by omega⟩)
       rcases hk with rfl | rfl
       ·try simp only [go_sem,seval,Yi,h6',decide_false,hb40,decide_true]
        refine .seq (ZD (mu:=[]) (dr:=[]) (by kernel_rfl) _ (by kernel_rfl) _ _ _ ?_)
        refine eX ?_
        rw [show IntKind.i64.wrap ((m:Int)+1)=((m+1:Nat):Int) from Zp (by omega) (by omega)]
        refine .seq (.seq (.yield (mu:=[]) (pre:=[_,_]) (post:=[_]) 51 52 (by kernel_rfl) ?_))
        refine eX ?_
        refine .of l (by try simp only [go_sem,seval,Yi]) ?_
        refine .mono (tv':=.agg (tkE (_,x,(a:Int)))) (by try simp only [go_sem,seval,Yi];rfl) (hY acc _ (_,x,(a:Int)) (by omega) (hcons _ _ _ _ hP hb5)) (fun S' hS'=>?_)
        obtain ⟨hP',hkeep⟩:=hS'
        have g1':=hb1 _ _ hP'
        have g5:=hkeep b5 (_,x,(a:Int)) (Zi _ _ _)
        refine eX ?_
        refine ZD (mu:=[]) (dr:=[]) (by kernel_rfl) _ (by kernel_rfl) _ _ _ ?_
        refine eX ?_
        refine ZD (mu:=[]) (dr:=[]) (by kernel_rfl) _ (by kernel_rfl) _ _ _ ?_
        try simp only [go_sem,seval,Yi,g1',g5,tkE]
        rw [show IntKind.i64.wrap ((a:Int)+(x.size:Int))=((a+x.size:Nat):Int) from by rw [Zp (by omega) (by omega)];omega]
        refine (OP s (a+x.size) hsz).use ?_
        have hbd:=TF s (s.size+1) (a+x.size) (by omega)
        refine eX ?_
        refine .mk (XG s (s.size+1) (a+x.size),m+1,acc++[(_,x,(a:Int))],S') ⟨hbd.2,by dsimp only;omega,by simp [hl],hP',f,by dsimp only;omega,?_⟩ (by dsimp only;omega) ⟨.refl _,.refl _,trivial⟩ (by repeat first | exact Zf.turn _ rfl | refine Zf.put rfl ?_) (.refl _)
        rw [← hc]
        dsimp only
        generalize SX s f (XG s (s.size+1) (a+x.size)) (m+1)=q
        cases q<;>simp [EG]
       ·try simp only [go_sem,seval,Yi,h6',decide_false,hb40,decide_true]
        refine .seq (ZD (mu:=[]) (dr:=[]) (by kernel_rfl) _ (by kernel_rfl) _ _ _ ?_)
        refine eX ?_
        rw [show IntKind.i64.wrap ((m:Int)+1)=((m+1:Nat):Int) from Zp (by omega) (by omega)]
        refine .seq (.seq (.yield (mu:=[]) (pre:=[_,_]) (post:=[_]) 51 52 (by kernel_rfl) ?_))
        refine eX ?_
        refine .of l (by try simp only [go_sem,seval,Yi]) ?_
        refine .mono (tv':=.agg (tkE (_,x,(a:Int)))) (by try simp only [go_sem,seval,Yi];rfl) (hY acc _ (_,x,(a:Int)) (by omega) (hcons _ _ _ _ hP hb5)) (fun S' hS'=>?_)
        obtain ⟨hP',hkeep⟩:=hS'
        have g1':=hb1 _ _ hP'
        have g5:=hkeep b5 (_,x,(a:Int)) (Zi _ _ _)
        refine eX ?_
        refine ZD (mu:=[]) (dr:=[]) (by kernel_rfl) _ (by kernel_rfl) _ _ _ ?_
        refine eX ?_
        refine ZD (mu:=[]) (dr:=[]) (by kernel_rfl) _ (by kernel_rfl) _ _ _ ?_
        try simp only [go_sem,seval,Yi,g1',g5,tkE]
        rw [show IntKind.i64.wrap ((a:Int)+(x.size:Int))=((a+x.size:Nat):Int) from by rw [Zp (by omega) (by omega)];omega]
        refine (OP s (a+x.size) hsz).use ?_
        have hbd:=TF s (s.size+1) (a+x.size) (by omega)
        refine eX ?_
        refine .mk (XG s (s.size+1) (a+x.size),m+1,acc++[(_,x,(a:Int))],S') ⟨hbd.2,by dsimp only;omega,by simp [hl],hP',f,by dsimp only;omega,?_⟩ (by dsimp only;omega) ⟨.refl _,.refl _,trivial⟩ (by repeat first | exact Zf.turn _ rfl | refine Zf.put rfl ?_) (.refl _)
        rw [← hc]
        dsimp only
        generalize SX s f (XG s (s.size+1) (a+x.size)) (m+1)=q
        cases q<;>simp [EG]
      ·have hk1:(k=1)=False:=eq_false (fun h=>hk (.inl h))
       have hk2:(k=2)=False:=eq_false (fun h=>hk (.inr h))
       try simp only [go_sem,seval,Yi,h6',decide_false,hk1,hk2,decide_true]
       refine .seq (ZD (mu:=[]) (dr:=[]) (by kernel_rfl) _ (by kernel_rfl) _ _ _ ?_)
       refine eX ?_
       rw [show IntKind.i64.wrap ((m:Int)+1)=((m+1:Nat):Int) from Zp (by omega) (by omega)]
       refine .seq (.seq (.yield (mu:=[]) (pre:=[_,_]) (post:=[_]) 51 52 (by kernel_rfl) ?_))
       refine eX ?_
       refine .of l (by try simp only [go_sem,seval,Yi]) ?_
       refine .mono (tv':=.agg (tkE (_,x,(a:Int)))) (by try simp only [go_sem,seval,Yi];rfl) (hY acc _ (_,x,(a:Int)) (by omega) (hcons _ _ _ _ hP hb5)) (fun S' hS'=>?_)
       obtain ⟨hP',hkeep⟩:=hS'
       have g1':=hb1 _ _ hP'
       have g5:=hkeep b5 (_,x,(a:Int)) (Zi _ _ _)
       refine eX ?_
       refine ZD (mu:=[]) (dr:=[]) (by kernel_rfl) _ (by kernel_rfl) _ _ _ ?_
       refine eX ?_
       refine ZD (mu:=[]) (dr:=[]) (by kernel_rfl) _ (by kernel_rfl) _ _ _ ?_
       try simp only [go_sem,seval,Yi,g1',g5,tkE]
       rw [show IntKind.i64.wrap ((a:Int)+(x.size:Int))=((a+x.size:Nat):Int) from by rw [Zp (by omega) (by omega)];omega]
       refine (OP s (a+x.size) hsz).use ?_
       have hbd:=TF s (s.size+1) (a+x.size) (by omega)
       refine eX ?_
       refine .mk (XG s (s.size+1) (a+x.size),m+1,acc++[(_,x,(a:Int))],S') ⟨hbd.2,by dsimp only;omega,by simp [hl],hP',f,by dsimp only;omega,?_⟩ (by dsimp only;omega) ⟨.refl _,.refl _,trivial⟩ (by repeat first | exact Zf.turn _ rfl | refine Zf.put rfl ?_) (.refl _)
       rw [← hc]
       dsimp only
       generalize SX s f (XG s (s.size+1) (a+x.size)) (m+1)=q
       cases q<;>simp [EG]
 ·have hlt:¬ a<s.size:=by omega
  rw [if_neg hlt] at hc
  try simp only [go_sem,seval,Yi,I3]
  refine .mk (.refl _) (.refl _) ⟨acc,hP,?_⟩
  rw [← hc]
  simp [EG]
end Go.Vx
