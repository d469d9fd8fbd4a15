/- Part Q19 of the proof of treeLooksProved: the walk of the program on abstract values, and the plain law. -/
import Derived.Test.YtmedmnondjmleaaGreatQ18
set_option linter.unusedVariables false
set_option linter.unusedSimpArgs false
set_option maxRecDepth 100000
namespace Go.Vx
open Go.Proofs
theorem Un:(Zz Tryz.prog 203 1=some 1)∧(Zh Tryz.prog 9=some 1)∧(Ze Tryz.prog 9=some false)∧(ZA Tryz.prog 307=some 203)∧(Zh Tryz.prog 203=some 3)∧(Zz Tryz.prog 203 0=some 0)∧(Zh Tryz.prog 3=some 1)∧(Ze Tryz.prog 3=some false)∧(Tryz.prog.underlying 307=some (.slice 203)):=by
 refine ⟨?_,?_,?_,?_,?_,?_,?_,?_,?_⟩<;>first | trivial | kernel_rfl
theorem Jg:(Zl Tryz.prog 203=some (.agg #[(.int .i64 0),(.string ⟨#[]⟩),(.int .i64 0)]))∧(Yx Tryz.prog 203=some [(0,1),(1,1),(2,1)]):=by
 refine ⟨?_,?_⟩<;>first | trivial | kernel_rfl
theorem Jj:(True):=by
 first | trivial | kernel_rfl
theorem Bx:(True):=by
 first | trivial | kernel_rfl
structure PS (σ0:Store) (l D b1 b2 b3 b4:Nat) (r:Loop) (s:Str) (acc:List Tok) (S:Store):Prop where
 gl:S.get l=some (.raw (.loop r))
 gD:S.get D=some (.raw (.deferred (some [])))
 g1:S.get b1=some (.cells [vs s])
 g2:∃ rt sz,S.get b2=some (.cells [.list rt sz (WF acc)])∧(sz=3∨acc=[])∧((rt=.full∧acc=[])∨∃ b e c,rt=.tip b e c∧sz=3∧S.get b=some (.tail e c)∧Zx σ0 b)
 g3:S.get b3=some (.cells [vi 0])
 g4:S.get b4=some (.cells [vi 0])
 sub:∀ p∈σ0,p∈S
theorem PS.cons {σ0:Store}{l D b1 b2 b3 b4:Nat}{r:Loop}{s:Str}{acc:List Tok}{S:Store}(h:PS σ0 l D b1 b2 b3 b4 r s acc S){b:Nat}(hb:Zx S b)(x:AObj):PS σ0 l D b1 b2 b3 b4 r s acc ((b,x)::S):=by
 obtain ⟨rt,sz,g2,hz,ht⟩:=h.g2
 refine ⟨by rw [Zy hb (by rw [h.gl];rfl)];exact h.gl,by rw [Zy hb (by rw [h.gD];rfl)];exact h.gD,by rw [Zy hb (by rw [h.g1];rfl)];exact h.g1,
  ⟨rt,sz,by rw [Zy hb (by rw [g2];rfl)];exact g2,hz,ht.imp id (fun ⟨b',e,c,h1,h2,h3,h4⟩=>⟨b',e,c,h1,h2,by rw [Zy hb (by rw [h3];rfl)];exact h3,h4⟩)⟩,
  by rw [Zy hb (by rw [h.g3];rfl)];exact h.g3,by rw [Zy hb (by rw [h.g4];rfl)];exact h.g4,fun p hp=>List.mem_cons_of_mem _ (h.sub p hp)⟩
theorem PS.app {σ0:Store}{l D b1 b2 b3 b4:Nat}{r:Loop}{s:Str}{acc:List Tok}{S S1:Store}(h:PS σ0 l D b1 b2 b3 b4 r s acc S)(hf2:Zx σ0 b2)(tok:Tok){b e c:Nat}
 (hS1:S1=S∨∃ b0 e0 c0,S.get b0=some (.tail e0 c0)∧Zx σ0 b0∧S1=S.del b0) (hb:Zx S1 b) :
 PS σ0 l D b1 b2 b3 b4 r s (acc++[tok]) (Store.set ((b,.tail e c)::S1) b2 (.cells [.list (.tip b e c) 3 (WF (acc++[tok]))]))∧∀ b' t,S.get b'=some (.cells (tkE t))→Store.get (Store.set ((b,.tail e c)::S1) b2 (.cells [.list (.tip b e c) 3 (WF (acc++[tok]))])) b'=some (.cells (tkE t)):=by
 obtain ⟨rt,sz,g2,hz,ht⟩:=h.g2
 have keep:∀ k x,S.get k=some x→(∀ e c,x≠.tail e c)→S1.get k=some x:=by
  intro k x hk hx
  rcases hS1 with rfl | ⟨b0,e0,c0,hg,_,rfl⟩
  ·exact hk
  ·rw [Y6 (fun e=>by rw [e,hg] at hk;injection hk with hk;exact hx _ _ hk.symm)];exact hk
 have sub1:∀ p∈σ0,p∈S1:=by
  intro p hp
  rcases hS1 with rfl | ⟨b0,e0,c0,hg,hf,rfl⟩
  ·exact h.sub p hp
  ·obtain ⟨k,x⟩:=p
   exact Vc (h.sub _ hp) (Yv hf hp)
 have k2:=keep b2 _ g2 (by simp)
 have keep2:∀ k x,S.get k=some x→(∀ e c,x≠.tail e c)→k≠b2→Store.get (Store.set ((b,.tail e c)::S1) b2 (.cells [.list (.tip b e c) 3 (WF (acc++[tok]))])) k=some x:=by
  intro k x hk hx hne
  rw [Zb hne,Zy hb (by rw [keep k x hk hx];rfl)]
  exact keep k x hk hx
 have n:∀ k x,S.get k=some x→x≠.cells [.list rt sz (WF acc)]→k≠b2:=fun k x hk hx e=>by rw [e,g2] at hk;injection hk with hk;exact hx hk.symm
 refine ⟨⟨keep2 l _ h.gl (by simp) (n l _ h.gl (by simp)),keep2 D _ h.gD (by simp) (n D _ h.gD (by simp)),keep2 b1 _ h.g1 (by simp) (n b1 _ h.g1 (by simp)),⟨.tip b e c,3,Zd (x:=.cells [.list rt sz (WF acc)]) (by rw [Zy hb (by rw [k2];rfl)];exact k2),.inl rfl,.inr ⟨b,e,c,rfl,rfl,?_,X7 sub1 hb⟩⟩,keep2 b3 _ h.g3 (by simp) (n b3 _ h.g3 (by simp)),keep2 b4 _ h.g4 (by simp) (n b4 _ h.g4 (by simp)),fun p hp=>?_⟩,fun b' t hk=>?_⟩
 ·have hne:b≠b2:=fun e=>by rw [← e,Zm hb] at k2;cases k2
  rw [Zb hne,Zi]
 ·have h1:=List.mem_cons_of_mem (b,AObj.tail e c) (sub1 p hp)
  exact X0 p h1 (fun e=>by obtain ⟨k,x⟩:=p;exact Yv hf2 hp e)
 ·exact keep2 b' _ hk (by simp [tkE]) (n b' _ hk (by simp [tkE]))
theorem PS.turn {σ0:Store}{l D b1 b2 b3 b4:Nat}{r:Loop}{s:Str}{acc:List Tok}{S:Store}(h:PS σ0 l D b1 b2 b3 b4 r s acc S)(hf:Zx σ0 l)(r':Loop):PS σ0 l D b1 b2 b3 b4 r' s acc (S.set l (.raw (.loop r'))):=by
 obtain ⟨rt,sz,g2,hz,ht⟩:=h.g2
 have n:∀ k x,S.get k=some x→x≠.raw (.loop r)→(S.set l (.raw (.loop r'))).get k=some x:=fun k x hk hx=>by
  rw [Zb (fun e=>by rw [e,h.gl] at hk;injection hk with hk;exact hx hk.symm)];exact hk
 refine ⟨Zd h.gl,n _ _ h.gD (by simp),n _ _ h.g1 (by simp),⟨rt,sz,n _ _ g2 (by simp),hz,ht.imp id (fun ⟨b',e,c,h1,h2,h3,h4⟩=>⟨b',e,c,h1,h2,n _ _ h3 (by simp),h4⟩)⟩,n _ _ h.g3 (by simp),n _ _ h.g4 (by simp),fun p hp=>?_⟩
 exact X0 p (h.sub p hp) (fun e=>by obtain ⟨k,x⟩:=p;exact Yv hf hp e)
theorem NR (tmps:Array Value)(i:Nat):dG tmps i=.val (tmps.getD i undef):=rfl
def bW (σ:Store)(l D b1 b2 b3 b4:Nat)(r:Loop)(s:Str)(acc:List Tok)(Sx:Store):Exit→Fr→Store→Prop:=fun e fr2 σ2=>e=.normal∧σ2.get l=some (.raw (.loop { r with state:=.busy }))∧PS σ l D b1 b2 b3 b4 r s acc (σ2.set l (.raw (.loop r)))∧∀ b t,Sx.get b=some (.cells (tkE t))→(σ2.set l (.raw (.loop r))).get b=some (.cells (tkE t))
def Vw (s:Str):AV:=if 20000<s.size then .tup [.list .none 3 [],vi 0,vi 2] else match R5 s with
 | .inr toks=>.tup [.list .none 3 (WF toks),vi 0,vi 0]
 | .inl (a,e)=>.tup [.list .none 3 [],vi a,vi e]
theorem Wk.nilN (s s':Nat):Wk (.list .full s []) (.list .none s' []):=(Wk.nil s s').trans (.list _ _ _)
theorem BW (s:Str):Pur Tryz.prog 268 [vs s] (Vw s):=by
 intro σ
 refine Zj.nodup (by kernel_rfl) (fun hnd=>?_)
 refine K0 Tryz.func268 rfl (by kernel_rfl) ?_
 rw [Tryz.ntmps268,Tryz.results268]
 refine .seq (.of (ZD (mu:=[]) (dr:=[]) (by kernel_rfl) _ (by kernel_rfl) _ _ _ ?_))
 refine eS ?_
 intro b2 hb2 b3 hb3 b4 hb4
 simp only [XL]
 have h2:Zx ((b3,AObj.cells [vi 0])::(b2,.cells [.list .full 0 []])::σ) b4:=hb4
 have g2:Store.get ((b4,AObj.cells [vi 0])::(b3,.cells [vi 0])::(b2,.cells [.list .full 0 []])::σ) b2=some (.cells [.list .full 0 []]):=by
  rw [Zy hb4 (by rw [Zy hb3 (by rw [Zi];rfl),Zi];rfl),Zy hb3 (by rw [Zi];rfl),Zi]
 have g3:Store.get ((b4,AObj.cells [vi 0])::(b3,.cells [vi 0])::(b2,.cells [.list .full 0 []])::σ) b3=some (.cells [vi 0]):=by
  rw [Zy hb4 (by rw [Zi];rfl),Zi]
 have g4:Store.get ((b4,AObj.cells [vi 0])::(b3,.cells [vi 0])::(b2,.cells [.list .full 0 []])::σ) b4=some (.cells [vi 0]):=Zi _ _ _
 obtain ⟨S,hS⟩:∃ S:Store,S=(b4,AObj.cells [vi 0])::(b3,.cells [vi 0])::(b2,.cells [.list .full 0 []])::σ:=⟨_,rfl⟩
 have n34:b4≠b3:=hb4.1.symm
 have n24:b4≠b2:=hb4.2.1.symm
 have n23:b3≠b2:=hb3.1.symm
 have f2:Zx σ b2:=hb2
 have f3:Zx σ b3:=hb3.2
 have f4:Zx σ b4:=hb4.2.2
 have hsub:∀ p∈σ,p∈S:=fun p hp=>by rw [hS];simp [hp]
 rw [← hS] at g2 g3 g4
 have hcl:((b4,AObj.cells [AV.val (Value.int IntKind.i64 0)])::(b3,.cells [.val (.int .i64 0)])::(b2,.cells [.list .full 0 []])::σ:Store)=S:=hS.symm
 rw [hcl]
 have hsubS:Sub σ S:=⟨hsub,fun _=>hnd⟩
 clear hcl hS h2 hb2 hb3 hb4
 refine .seq (.of (ZD (mu:=[]) (dr:=[]) (by kernel_rfl) _ (by kernel_rfl) _ _ _ ?_))
 try simp only [go_sem,Int.reduceEq,Int.reduceLT,Int.reduceLE,↓reduceIte,Nat.reduceEqDiff,Nat.reduceAdd,Nat.reduceSub,Nat.reduceLT,Nat.reduceLeDiff,Nat.reduceMul,reduceCtorEq,Wu,g2,g3,g4,n34,n24,n23,Ne.symm n34,Ne.symm n24,Ne.symm n23]
 refine ⟨fun hbig=>?_,fun hbig=>?_⟩
 ·have hv:Vw s=.tup [.list .none 3 [],vi 0,vi 2]:=by unfold Vw;rw [if_pos (by omega)]
  simp only [XL]
  refine .inl ⟨rfl,?_⟩
  try simp only [go_sem,Int.reduceEq,Int.reduceLT,Int.reduceLE,↓reduceIte,Nat.reduceEqDiff,Nat.reduceAdd,Nat.reduceSub,Nat.reduceLT,Nat.reduceLeDiff,Nat.reduceMul,reduceCtorEq,Wu,g2,g3,g4,n34,n24,n23,Ne.symm n34,Ne.symm n24,Ne.symm n23,Option.map_some]
  rw [hv]
  exact .mk (.tup3 (.nilN 0 3) (.refl _) (.refl _)) (((hsubS.set_of f2).set_of f3).set_of f4) ⟨rfl,rfl⟩
 ·simp only [XL]
  refine .seq (.region (mu:=[]) (pre:=[_]) 9 (by kernel_rfl) (by kernel_rfl) (by decide) ?_)
  refine eS ?_
  refine ⟨_,_,rfl,?_⟩
  simp only [XL]
  refine .seq (.seq (.of (ZD (mu:=[]) (dr:=[]) (by kernel_rfl) _ (by kernel_rfl) _ _ _ ?_)))
  refine eS ?_
  refine H6 s S _ (fun b1 hb1=>?_)
  refine eS ?_
  simp only [XL]
  refine .block (.range (by rfl) 275 #[.pointer (some ⟨b1,0,none⟩)] (by try simp only [go_sem,Int.reduceEq,Int.reduceLT,Int.reduceLE,↓reduceIte,Nat.reduceEqDiff,Nat.reduceAdd,Nat.reduceSub,Nat.reduceLT,Nat.reduceLeDiff,Nat.reduceMul,reduceCtorEq,Wu]) ?_)
  intro D l r hD hl hst hpe hpa has hbo hrs htm
  have h2t:=htm 2 _ (by decide) (by try simp only [go_sem,Int.reduceEq,Int.reduceLT,Int.reduceLE,↓reduceIte,Nat.reduceEqDiff,Nat.reduceAdd,Nat.reduceSub,Nat.reduceLT,Nat.reduceLeDiff,Nat.reduceMul,reduceCtorEq,Wu];rfl)
  refine (az s (by omega) l b1 (PS σ l D b1 b2 b3 b4 r s) ?_ (fun acc S b x h hb=>h.cons hb x) (fun acc S h=>h.g1) _ ?_).mono ?_
  ·intro acc Sx tok hacc hPx
   obtain ⟨k,x,a⟩:=tok
   have hfl:Zx σ l:=X7 hsub hl.2.2
   have keep0:∀ b b5 t,Zx Sx b5→Sx.get b=some (.cells (tkE t))→Store.get (Store.set ((b5,.cells (tkE (k,x,a)))::Sx) l (.raw (.loop { r with state:=.busy }))) b=some (.cells (tkE t)):=by
    intro b b5 t h5 hb
    have hbl:b≠l:=fun e=>by rw [e,hPx.gl] at hb;simp at hb
    rw [Zb hbl,Zy h5 (by rw [hb];rfl)]
    exact hb
   refine ⟨r,12,_,_,_,_,_,[],(fun e fr1 σ1=>e=.normal∧∃ b5,Zx Sx b5∧fr1 5=.val (.pointer (some ⟨b5,0,none⟩))∧fr1 2=.val (.pointer (some ⟨b2,0,none⟩))∧σ1=(b5,.cells (tkE (k,x,a)))::Sx),
    bW σ l D b1 b2 b3 b4 r s (acc++[(k,x,a)]) Sx,
    hPx.gl,hpa,has,hbo,hst,hpe,by rw [hrs];kernel_rfl,fun e fr σ h=>h.1,fun e fr σ h=>h.1,?_,?_,fun fr2 σ2 h=>h.2⟩
   ·refine gB ?_
    intro b5 hb5
    refine gB ?_
    exact ⟨b5,hb5,rfl,rfl⟩
   ·rintro fr' σ' ⟨_,b5,hb5,h5,h2,rfl⟩
    have hP5:=(hPx.cons hb5 (.cells (tkE (k,x,a)))).turn hfl { r with state:=.busy }
    refine ⟨by rw [Zy hb5 (by rw [hPx.gl];rfl)];exact hPx.gl,?_⟩
    have keep5:=fun b t=>keep0 b b5 t hb5
    have g5:Store.get (Store.set ((b5,.cells (tkE (k,x,a)))::Sx) l (.raw (.loop { r with state:=.busy }))) b5=some (.cells (tkE (k,x,a))):=by
     have hne:b5≠l:=fun e=>by have:=hPx.gl;rw [← e,Zm hb5] at this;cases this
     rw [Zb hne,Zi]
    generalize hSy:Store.set ((b5,.cells (tkE (k,x,a)))::Sx) l (.raw (.loop { r with state:=.busy }))=Sy at hP5 g5 keep5 ⊢
    obtain ⟨rt,sz,k2,hz,ht⟩:=hP5.g2
    have fin:∀ (b e c:Nat) (S1:Store),(S1=Sy∨∃ b0 e0 c0,Sy.get b0=some (.tail e0 c0)∧Zx σ b0∧S1=Sy.del b0)→Zx S1 b→(Store.set ((b,.tail e c)::S1) b2 (.cells [.list (.tip b e c) 3 (WF acc++[tkE (k,x,a)])])).get l=some (.raw (.loop { r with state:=.busy })) ∧
     PS σ l D b1 b2 b3 b4 r s (acc++[(k,x,a)]) ((Store.set ((b,.tail e c)::S1) b2 (.cells [.list (.tip b e c) 3 (WF acc++[tkE (k,x,a)])])).set l (.raw (.loop r))) ∧
     ∀ b' t,Sx.get b'=some (.cells (tkE t))→((Store.set ((b,.tail e c)::S1) b2 (.cells [.list (.tip b e c) 3 (WF acc++[tkE (k,x,a)])])).set l (.raw (.loop r))).get b'=some (.cells (tkE t)):=by
     intro b e c S1 hS1 hb
     have he:WF acc++[tkE (k,x,a)]=WF (acc++[(k,x,a)]):=by simp [WF]
     rw [he]
     obtain ⟨q1,q2⟩:=hP5.app f2 (k,x,a) (b:=b) (e:=e) (c:=c) hS1 hb
     refine ⟨q1.gl,q1.turn hfl r,fun b' t hb'=>?_⟩
     have hbl:b'≠l:=fun e=>by rw [e,hPx.gl] at hb';simp at hb'
     rw [Zb hbl]
     exact q2 b' t (keep5 b' t hb')
    simp only [tkE] at g5 fin
    have hlen:(WF acc).length≤6000:=by simp [WF];exact hacc
    rcases ht with ⟨rfl,rfl⟩ | ⟨b0,e0,c0,rfl,rfl,g0,f0⟩
    ·try simp only [go_sem,Int.reduceEq,Int.reduceLT,Int.reduceLE,↓reduceIte,Nat.reduceEqDiff,Nat.reduceAdd,Nat.reduceSub,Nat.reduceLT,Nat.reduceLeDiff,Nat.reduceMul,reduceCtorEq,Wu,h5,h2,k2,g5,WF]
     refine ⟨by decide,by simp [lim],fun b e c hb=>?_⟩
     have hgb:Store.get ((b,AObj.tail e c)::Sy) b2=some (.cells [.list .full sz []]):=by rw [Zy hb (by rw [k2];rfl)];exact k2
     refine gH ?_
     exact ⟨rfl,fin b e c Sy (.inl rfl) hb⟩
    ·try simp only [go_sem,Int.reduceEq,Int.reduceLT,Int.reduceLE,↓reduceIte,Nat.reduceEqDiff,Nat.reduceAdd,Nat.reduceSub,Nat.reduceLT,Nat.reduceLeDiff,Nat.reduceMul,reduceCtorEq,Wu,h5,h2,k2,g5]
     refine ⟨by decide,by simp only [lim];omega,g0,fun b e c hb=>?_⟩
     have k2d:(Sy.del b0).get b2=some (.cells [.list (.tip b0 e0 c0) 3 (WF acc)]):=by rw [Y6 (fun e=>by rw [e,g0] at k2;cases k2)];exact k2
     have hgb:Store.get ((b,AObj.tail e c)::Sy.del b0) b2=some (.cells [.list (.tip b0 e0 c0) 3 (WF acc)]):=by rw [Zy hb (by rw [k2d];rfl)];exact k2d
     refine gH ?_
     exact ⟨rfl,fin b e c _ (.inr ⟨b0,e0,c0,g0,f0,rfl⟩) hb⟩
  ·have gb1:Store.get ((b1,AObj.cells [vs s])::S) b2=some (.cells [.list .full 0 []]):=by rw [Zy hb1 (by rw [g2];rfl)];exact g2
   have gb3:Store.get ((b1,AObj.cells [vs s])::S) b3=some (.cells [vi 0]):=by rw [Zy hb1 (by rw [g3];rfl)];exact g3
   have gb4:Store.get ((b1,AObj.cells [vs s])::S) b4=some (.cells [vi 0]):=by rw [Zy hb1 (by rw [g4];rfl)];exact g4
   have up:∀ k x,Store.get ((b1,AObj.cells [vs s])::S) k=some x→Store.get ((l,AObj.raw (.loop r))::(D,.raw (.deferred (some [])))::(b1,.cells [vs s])::S) k=some x:=by
    intro k x hk
    have h1:Store.get ((D,AObj.raw (.deferred (some [])))::(b1,.cells [vs s])::S) k=some x:=by rw [Zy hD (by rw [hk];rfl)];exact hk
    rw [Zy hl (by rw [h1];rfl)];exact h1
   exact ⟨Zi _ _ _,by rw [Zy hl (by rw [Zi];rfl),Zi],up _ _ (Zi _ _ _),⟨.full,0,up _ _ gb1,.inr rfl,.inl ⟨rfl,rfl⟩⟩,up _ _ gb3,up _ _ gb4,fun p hp=>by simp [hsub p hp]⟩
  ·rintro res S' ⟨acc,hP,hres⟩
   have hfl:Zx σ l:=X7 hsub hl.2.2
   have hfD:Zx σ D:=X7 hsub hD.2
   have hsz:¬ 20000<s.size:=by omega
   obtain ⟨rt,sz,k2,hz,ht⟩:=hP.g2
   have hsubP:Sub σ S':=⟨hP.sub,fun _=>hnd⟩
   cases hsc:R5 s with
   | inr toks =>
     rw [hsc] at hres
     obtain ⟨hr1,hr2⟩:=hres
     rw [hr1]
     subst hr2
     refine ⟨hP.gl,?_⟩
     have hP2:=hP.turn hfl { r with state:=.exhausted }
     generalize hS2:S'.set l (.raw (.loop { r with state:=.exhausted }))=S2 at hP2 ⊢
     simp only [Nb,XL]
     obtain ⟨rt2,sz2,k22,hz2,_⟩:=hP2.g2
     have n23':b2≠b3:=Ne.symm n23
     have n24':b2≠b4:=Ne.symm n24
     have n34':b3≠b4:=Ne.symm n34
     have nD2:D≠b2:=fun e=>by have:=hP2.gD;rw [e,k22] at this;simp at this
     have nD3:D≠b3:=fun e=>by have:=hP2.gD;rw [e,hP2.g3] at this;simp at this
     have nD4:D≠b4:=fun e=>by have:=hP2.gD;rw [e,hP2.g4] at this;simp at this
     refine .of (ZD (mu:=[]) (dr:=[]) (by kernel_rfl) _ (by kernel_rfl) _ _ _ ?_)
     try simp only [go_sem,Int.reduceEq,Int.reduceLT,Int.reduceLE,↓reduceIte,Nat.reduceEqDiff,Nat.reduceAdd,Nat.reduceSub,Nat.reduceLT,Nat.reduceLeDiff,Nat.reduceMul,reduceCtorEq,Wu,k22,hP2.g3,hP2.g4,n23',n24',n34',n23,n24,n34]
     refine .inr ⟨D,_,_,rfl,by rw [Zb nD4,Zb nD3,Zb nD2];exact hP2.gD,?_⟩
     refine LL b2 b3 b4 _ _ ?_
     have hv:Vw s=.tup [.list .none 3 (WF acc),vi 0,vi 0]:=by unfold Vw;rw [if_neg hsz,hsc]
     rw [hv]
     try simp only [go_sem,Int.reduceEq,Int.reduceLT,Int.reduceLE,↓reduceIte,Nat.reduceEqDiff,Nat.reduceAdd,Nat.reduceSub,Nat.reduceLT,Nat.reduceLeDiff,Nat.reduceMul,reduceCtorEq,Wu,k22,hP2.g3,hP2.g4,n23',n24',n34',n23,n24,n34,Ne.symm nD2,Ne.symm nD3,Ne.symm nD4,Option.map_some]
     refine .mk (.tup3 ?_ (.refl _) (.refl _)) (Sub.set_of (Sub.set_of (Sub.set_of (Sub.set_of ⟨hP2.sub,fun _=>hnd⟩ f2) f3) f4) hfD) ⟨rfl,rfl⟩
     rcases hz2 with rfl | rfl
     ·exact .list _ _ _
     ·exact .nilA _ _ _
   | inl ae =>
     obtain ⟨a,e⟩:=ae
     rw [hsc] at hres
     subst hres
     have n23':b2≠b3:=Ne.symm n23
     have n24':b2≠b4:=Ne.symm n24
     have n34':b3≠b4:=Ne.symm n34
     have nD2:D≠b2:=fun e=>by have:=hP.gD;rw [e,k2] at this;simp at this
     have nD3:D≠b3:=fun e=>by have:=hP.gD;rw [e,hP.g3] at this;simp at this
     have nD4:D≠b4:=fun e=>by have:=hP.gD;rw [e,hP.g4] at this;simp at this
     have hv:Vw s=.tup [.list .none 3 [],vi a,vi e]:=by unfold Vw;rw [if_neg hsz,hsc]
     refine ⟨D,_,_,N2 a e,rfl,hP.gD,rfl,?_⟩
     refine LK b2 b3 b4 a e _ _ _ _ n23' n24' n34' (by rw [Zb (Ne.symm nD2)];exact k2) (by rw [Zb (Ne.symm nD3)];exact hP.g3) (by rw [Zb (Ne.symm nD4)];exact hP.g4) _ ?_
     rw [hv]
     try simp only [go_sem,Int.reduceEq,Int.reduceLT,Int.reduceLE,↓reduceIte,Nat.reduceEqDiff,Nat.reduceAdd,Nat.reduceSub,Nat.reduceLT,Nat.reduceLeDiff,Nat.reduceMul,reduceCtorEq,Wu,k2,hP.g3,hP.g4,n23',n24',n34',n23,n24,n34,Ne.symm nD2,Ne.symm nD3,Ne.symm nD4,Option.map_some]
     exact .mk (.tup3 (.nilA _ _ _) (.refl _) (.refl _)) (Sub.set_of (Sub.set_of (Sub.set_of (Sub.set_of ⟨hP.sub,fun _=>hnd⟩ hfD) f2) f3) f4) ⟨rfl,rfl⟩
def NU (k:Int)(s:Str):List Tok→Bool
 | [(k',x,_)]=>decide (k'=k)&&decide (x=s)
 | _=>false
def YP (k:Int)(s:Str):Bool:=if 20000<s.size then false else match R5 s with
 | .inr l=>NU k s l
 | .inl _=>false
theorem JV (k a:Int)(s:Str):Pur Tryz.prog 253 [.agg [vi k,vs s,vi a]] (vi (if YP k s=true then 0 else 12)):=by
 intro σ
 refine Zc [] [(2,23,0)] Tryz.func253 rfl (by kernel_rfl) ?_;rw [Tryz.ntmps253,Tryz.results253]
 refine gQ ?_
 refine (BW s).use ?_
 have n01:(((0:Nat):Int)=1)=False:=eq_false (by omega)
 by_cases hb:20000<s.size
 ·have hv:Vw s=.tup [.list .none 3 [],vi 0,vi 2]:=by unfold Vw;rw [if_pos hb]
  have ht:YP k s=false:=by unfold YP;rw [if_pos hb]
  rw [hv,ht]
  refine gQ ?_
  exact Zu
 ·cases hsc:R5 s with
  | inl ae =>
    obtain ⟨a',e⟩:=ae
    have hv:Vw s=.tup [.list .none 3 [],vi a',vi e]:=by unfold Vw;rw [if_neg hb,hsc]
    have ht:YP k s=false:=by unfold YP;rw [if_neg hb,hsc]
    rw [hv,ht]
    by_cases he:e=0
    ·try simp only [go_sem,Int.reduceEq,Int.reduceLT,Int.reduceLE,↓reduceIte,Nat.reduceEqDiff,Nat.reduceAdd,Nat.reduceSub,Nat.reduceLT,Nat.reduceLeDiff,Nat.reduceMul,reduceCtorEq,Un,he,decide_true,n01,decide_false]
     exact Zu
    ·try simp only [go_sem,Int.reduceEq,Int.reduceLT,Int.reduceLE,↓reduceIte,Nat.reduceEqDiff,Nat.reduceAdd,Nat.reduceSub,Nat.reduceLT,Nat.reduceLeDiff,Nat.reduceMul,reduceCtorEq,Un,he,decide_false]
     exact Zu
  | inr toks =>
    have hv:Vw s=.tup [.list .none 3 (WF toks),vi 0,vi 0]:=by unfold Vw;rw [if_neg hb,hsc]
    have ht:YP k s=NU k s toks:=by unfold YP;rw [if_neg hb,hsc]
    rw [hv,ht]
    clear hv ht hsc
    match toks with
    | [] =>
      try simp only [go_sem,Int.reduceEq,Int.reduceLT,Int.reduceLE,↓reduceIte,Nat.reduceEqDiff,Nat.reduceAdd,Nat.reduceSub,Nat.reduceLT,Nat.reduceLeDiff,Nat.reduceMul,reduceCtorEq,Un,WF,n01,decide_false,NU]
      exact Zu
    | t1::t2::r =>
      have hne:(((r.length+1+1:Nat):Int)=1)=False:=eq_false (by omega)
      try simp only [go_sem,Int.reduceEq,Int.reduceLT,Int.reduceLE,↓reduceIte,Nat.reduceEqDiff,Nat.reduceAdd,Nat.reduceSub,Nat.reduceLT,Nat.reduceLeDiff,Nat.reduceMul,reduceCtorEq,Un,WF,List.length_map,hne,decide_false,NU]
      exact Zu
    | [(k',x,p)] =>
      have n11:(((1:Nat):Int)=1)=True:=eq_true (by omega)
      have hts:NU k s [(k',x,p)]=(decide (k'=k)&&decide (x=s)):=rfl
      rw [hts]
      have hg:∀ c,[tkE (k',x,p)][(0:Int).toNat]?=some c→c=[vi k',vs x,vi p]:=fun c hc=>by simp [tkE] at hc;exact hc.symm
      refine gi ?_
      refine ⟨by omega,fun c hc=>?_⟩
      obtain rfl:=hg c hc
      by_cases hk:k'=k
      ·subst hk
       refine gi ?_
       refine ⟨by omega,fun c hc=>?_⟩
       obtain rfl:=hg c hc
       by_cases hx:x=s
       ·try simp only [go_sem,Int.reduceEq,Int.reduceLT,Int.reduceLE,↓reduceIte,Nat.reduceEqDiff,Nat.reduceAdd,Nat.reduceSub,Nat.reduceLT,Nat.reduceLeDiff,Nat.reduceMul,reduceCtorEq,Un,hx,decide_true]
        exact X8 (by simp)
       ·try simp only [go_sem,Int.reduceEq,Int.reduceLT,Int.reduceLE,↓reduceIte,Nat.reduceEqDiff,Nat.reduceAdd,Nat.reduceSub,Nat.reduceLT,Nat.reduceLeDiff,Nat.reduceMul,reduceCtorEq,Un,hx,decide_false]
        exact X8 (by simp)
      ·try simp only [go_sem,Int.reduceEq,Int.reduceLT,Int.reduceLE,↓reduceIte,Nat.reduceEqDiff,Nat.reduceAdd,Nat.reduceSub,Nat.reduceLT,Nat.reduceLeDiff,Nat.reduceMul,reduceCtorEq,Un,hk,decide_false]
       exact X8 (by simp [hk])
theorem FT (s:Str):Pur Tryz.prog 140 [vs s] (vb (YP 1 s)):=by
 intro σ
 refine Zc [] [] Tryz.func140 rfl (by kernel_rfl) ?_;rw [Tryz.ntmps140,Tryz.results140]
 refine hJ ?_
 have h:Pur Tryz.prog 165 [vs s] (vb (YP 1 s)):=by
  intro σ
  have h:Pur Tryz.prog 213 [vs s,vi 1] (vb (YP 1 s)):=by
   intro σ
   refine Zc [] [] Tryz.func213 rfl (by kernel_rfl) ?_;rw [Tryz.ntmps213,Tryz.results213]
   refine gY ?_
   refine (JV 1 0 s).use ?_
   refine gY ?_
   refine ZC ?_
   cases YP 1 s<;>simp
  refine Zc [] [] Tryz.func165 rfl (by kernel_rfl) ?_;rw [Tryz.ntmps165,Tryz.results165]
  refine gX ?_
  refine h.use ?_
  refine gX ?_
  exact Zu
 refine h.use ?_
 refine hJ ?_
 exact Zu
end Go.Vx
