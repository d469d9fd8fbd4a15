/- Part QUha of the proof of treeLooksProved: the walk of the program on abstract values, and the plain law. -/
import Derived.Test.YtmedmnondjmleaaGreatQ36
set_option linter.unusedVariables false
set_option linter.unusedSimpArgs false
set_option maxRecDepth 100000
namespace Go.Vx
open Go.Proofs
theorem Ql (n:Nat)(l:List Row)(left:Int):Ww n 0 l left=some (.mk 1 (l.map Row.pick) 0 [] [] [],left):=rfl
theorem Qm {n k:Nat}{l:List Row}{left:Int}(h:YN l (n-(k+1))=[]):Ww n (k+1) l left=Ww n k l left:=by simp only [Ww,h,if_true]
theorem Qn {n k:Nat}{l:List Row}{left:Int}(h:YN l (n-(k+1))≠[]):Ww n (k+1) l left=Ut (Tu n k) l ((n-(k+1):Nat):Int) (YN l (n-(k+1))) left:=by
 simp only [Ww,if_neg h];rfl
theorem Fk {B:List Row→Int→Option (Tr×Int)}(hB:∀ l x t y,B l x=some (t,y)→y≤x∧(0≤x→0≤y)){l:List Row}{a:Int}{ns:List Str}{x:Int}{t:Tr}{y:Int}(h:Ut B l a ns x=some (t,y)):y≤x∧(0≤x→0≤y):=by
 have hc:∀ (ns:List Str) (x:Int) (cs:List Cs) (y:Int),XH B l a ns x=some (cs,y)→y≤x∧(0≤x→0≤y):=by
  intro ns
  induction ns with
  | nil=>intro x cs y h;simp only [XH,Option.some.injEq,Prod.mk.injEq] at h;omega
  | cons s r ih =>
    intro x cs y h
    simp only [XH] at h
    cases h1:B (l.filter fun x=>YD (YT x a) ⟨false,s⟩) x with
    | none=>rw [h1] at h;cases h
    | some q =>
      rw [h1] at h;simp only at h
      cases h2:XH B l a r q.2 with
      | none=>rw [h2] at h;cases h
      | some q2 =>
        rw [h2] at h
        simp only [Option.some.injEq,Prod.mk.injEq] at h
        have b1:=hB _ _ _ _ h1
        have b2:=ih _ _ _ h2
        omega
 unfold Ut at h
 cases h1:B (l.filter fun x=>YD (YT x a) XB) x with
 | none=>rw [h1] at h;cases h
 | some q1 =>
   rw [h1] at h;simp only at h
   cases h2:XH B l a ns q1.2 with
   | none=>rw [h2] at h;cases h
   | some q2 =>
     rw [h2] at h;simp only at h
     cases h3:B (l.filter fun x=>YD (YT x a) ⟨false,ZS⟩) q2.2 with
     | none=>rw [h3] at h;cases h
     | some q3 =>
       rw [h3] at h
       simp only [Option.some.injEq,Prod.mk.injEq] at h
       have b1:=hB _ _ _ _ h1
       have b2:=hc _ _ _ _ h2
       have b3:=hB _ _ _ _ h3
       omega
theorem JX (n:Nat):∀ (k:Nat) (l:List Row) (x:Int) (t:Tr) (y:Int),Tu n k l x=some (t,y)→y≤x∧(0≤x→0≤y):=by
 have hl:∀ (k:Nat) (l:List Row) (x:Int) (t:Tr) (y:Int),Ww n k l x=some (t,y)→y≤x∧(0≤x→0≤y):=by
  intro k
  induction k with
  | zero=>intro l x t y h;rw [Ql] at h;simp only [Option.some.injEq,Prod.mk.injEq] at h;omega
  | succ k ih =>
    intro l x t y h
    by_cases hn:YN l (n-(k+1))=[]
    ·rw [Qm hn] at h;exact ih _ _ _ _ h
    ·rw [Qn hn] at h
     refine Fk (fun l x t y h=>?_) h
     unfold Tu at h
     split at h
     ·cases h
     ·have:=ih _ _ _ _ h;omega
 intro k l x t y h
 unfold Tu at h
 split at h
 ·cases h
 ·have:=hl _ _ _ _ _ h;omega
theorem Sub.two {p q:Nat×AObj}{σ:Store}:Sub (p::σ) (p::q::σ) :=
 ⟨fun x hx=>by simp only [List.mem_cons] at hx ⊢;rcases hx with h | h<;>simp [h],fun h=>by simp only [List.map_cons,List.nodup_cons,List.mem_cons,not_or] at h ⊢;exact ⟨h.1.2,h.2.2⟩⟩
theorem XS.setb {A S:Store}(h:XS A S)(b:Nat)(o:AObj):XS (A.set b o) (S.set b o):=by
 intro c x hx
 rw [QD] at hx ⊢
 split
 ·rename_i e
  rw [if_pos e] at hx
  cases hA:A.get b with
  | none=>rw [hA] at hx;cases hx
  | some z=>rw [h b z hA];rw [hA] at hx;exact hx
 ·rename_i e;rw [if_neg e] at hx;exact h c x hx
abbrev zeroT:AObj:=.cells [vi 0,.list .full 0 [],vi 0,.list .full 0 [],.list .full 0 [],.list .full 0 []]
def R10 (o:Option (Tr×Int))(arg:Int)(bl:Nat)(S0:Store):Fr→Store→Prop:=fun fr' σ'=>∃ t y b11,o=some (t,y)∧Zx S0 b11∧fr' 11=.val (.pointer (some ⟨b11,0,none⟩)) ∧
 σ'=(b11,.cells [vi 2,.list .full 0 [],vi arg,.list .none 6 (cD [t]),.list .full 0 [],.list .full 0 []])::S0.set bl (lfO y)
def T10 (o:Option (Tr×Int))(bl:Nat)(S0:Store):Value→Store→Prop:=fun pv σ'=>pv=tlV∧o=none∧∃ y,Sub (S0.set bl (lfO y)) σ'
theorem AWp.opq2 {P:Program}{n:Nat}{ds:List Deferred}{c:Code}{ch:List Nat}{fr:Fr}{σ:Store}{R:Store→Fr→Store→Prop}{T:Store→Value→Store→Prop}(k k':Nat)(v v':AV)(hk:fr k=v)(hk':fr k'=v')(X:Store→Prop)(hX:X σ)
 (h:∀ (fr0:Fr) (S0:Store),fr0 k=v→fr0 k'=v'→X S0→AWp P n ds c (Cut ch fr0 (R S0) (T S0)) fr0 S0):AWp P n ds c (Cut ch fr (R σ) (T σ)) fr σ:=h fr σ hk hk' hX
theorem LV.base {σ0 σ1 S:Store}{v:AV}{sz:Nat}{es:List (List AV)}(h:LV σ0 S v sz es)(hf:∀ b,Zx σ0 b→Zx σ1 b):LV σ1 S v sz es:=by
 obtain ⟨rt,s',e,hz,ht⟩:=h
 exact ⟨rt,s',e,hz,ht.imp id (fun ⟨b,e,c,h1,h2,h3,h4⟩=>⟨b,e,c,h1,h2,h3,hf b h4⟩)⟩
theorem ID {B:List Row→Int→Option (Tr×Int)}{l:List Row}{a:Int}{ns:List Str}{x y:Int}{t:Tr}(h:B (l.filter fun x=>YD (YT x a) XB) x=some (t,y))(hc:XH B l a ns y=none):Ut B l a ns x=none:=by
 simp only [Ut,h,hc]
theorem IC {B:List Row→Int→Option (Tr×Int)}{l:List Row}{a:Int}{ns:List Str}{x y z:Int}{t:Tr}{cs:List Cs}(h:B (l.filter fun x=>YD (YT x a) XB) x=some (t,y))(hc:XH B l a ns y=some (cs,z)) :
 Ut B l a ns x=match B (l.filter fun x=>YD (YT x a) ⟨false,ZS⟩) z with | none=>none | some (tE,n3)=>some (.mk 2 [] a [t] cs [tE],n3):=by
 simp only [Ut,h,hc]
 cases B (l.filter fun x=>YD (YT x a) ⟨false,ZS⟩) z<;>rfl
section
variable (n bl bn bb:Nat)
set_option maxHeartbeats 2000000 in
theorem CL (nln:bn≠bl)(nlb:bb≠bl)(hn8:n≤1000):∀ k,k≤n→BIH n bl bn bb k:=by
 intro k
 induction k using Nat.strongRecOn with
 | _ k IH =>
 intro hkn l left σ hlen hc hl0 hl4 hS
 refine Zj.nodup (by kernel_rfl) (fun hnd=>?_)
 have hgl:=hS.gl
 have hgn:=hS.gn
 have hgb:=hS.gb
 simp only [lfO,Nu] at hgl hgn hgb
 have sgn:∀ x,(σ.set bl x).get bn=some (.cells [vi n]):=fun x=>by rw [Zb nln];exact hgn
 have sgb:∀ x,(σ.set bl x).get bb=some (.cells [.val (.func (.func 52) #[] #[.pointer (some ⟨bl,0,none⟩),.pointer (some ⟨bn,0,none⟩),.pointer (some ⟨bb,0,none⟩)])]):=fun x=>by rw [Zb nlb];exact hgb
 have sgl:∀ x,(σ.set bl x).get bl=some x:=fun x=>Zd hgl
 refine Zc [5] [(10,1000,0),(14,11,9)] Tryz.func52 rfl (by kernel_rfl) ?_;rw [Tryz.ntmps52,Tryz.results52]
 refine eo ?_
 intro b5 hb5 br hbr
 have n5l:b5≠bl:=Zt hb5 hgl
 have n5n:b5≠bn:=Zt hb5 hgn
 have n5b:b5≠bb:=Zt hb5 hgb
 have nr5:br≠b5:=Ne.symm hbr.1
 have nrl:br≠bl:=Zt hbr.2 hgl
 have nrn:br≠bn:=Zt hbr.2 hgn
 have nrb:br≠bb:=Zt hbr.2 hgb
 refine gq ?_
 rw [Zp (x:=left-1) (by omega) (by omega)]
 refine gq ?_
 refine ⟨fun hneg=>?_,fun hneg=>?_⟩
 ·have hbs:Tu n k l left=none:=by unfold Tu;rw [if_pos (by omega)]
  rw [hbs]
  refine eo ?_
  exact .mk (((Sub.refl _).skip _).skip _) ⟨rfl,_,rfl⟩
 ·have hbs:Tu n k l left=Ww n k l (left-1):=by unfold Tu;rw [if_neg (by omega)]
  rw [hbs]
  obtain ⟨left1,hle⟩:∃ x,x=left-1:=⟨_,rfl⟩
  rw [← hle]
  have hl10:0≤left1:=by omega
  have hl14:left1≤4000:=by omega
  refine eo ?_
  intro b8 hb8
  have n8r:b8≠br:=Ne.symm hb8.1
  have n85:b8≠b5:=Ne.symm hb8.2.1
  refine eo ?_
  refine Zv (mu:=[5]) (dr:=[(10,1000,0),(14,11,9)]) [8,9,10,11,13,21,22,23,24,25,26,27,28,29,30,31,32,33,34,35,36,37,38,39,40,41,42,43,44,45,46,47,48,49,50,51,52,53,54,55,56,57,58,59,60,61,62,63] (fun x:Nat×Nat=>[(8,.val (.pointer (some ⟨x.2,0,none⟩)))]) (fun x=>(x.2,lfO ((n-x.1:Nat):Int))::(br,zeroT)::(b5,rwO l)::σ.set bl (lfO left1)) (fun x=>x.1≤k∧Zx ((br,zeroT)::(b5,rwO l)::σ.set bl (lfO left1)) x.2∧Ww n k l left1=Ww n x.1 l left1) (fun x=>x.1) (k,b8) (by kernel_rfl) ⟨by simp,hb8,rfl⟩ ⟨.refl _,trivial⟩ (.refl _) ?_
  rintro ⟨j,b8⟩ ⟨j1,hb8,j3⟩
  simp only at j1 hb8 j3
  have n8r:b8≠br:=Ne.symm hb8.1
  have n85:b8≠b5:=Ne.symm hb8.2.1
  have hb8s:=hb8.2.2
  have n8l:b8≠bl:=Zt hb8s (sgl _)
  have n8n:b8≠bn:=Zt hb8s (sgn _)
  have n8b:b8≠bb:=Zt hb8s (sgb _)
  rw [j3]
  try simp only [go_sem,Int.reduceEq,Int.reduceLT,Int.reduceLE,↓reduceIte,Nat.reduceEqDiff,Nat.reduceAdd,Nat.reduceSub,Nat.reduceLT,Nat.reduceLeDiff,Nat.reduceMul,reduceCtorEq,XD,lfO,n8n,nrn,n5n,sgn]
  refine ⟨fun hlt=>?_,fun hlt=>?_⟩
  ·obtain ⟨j',rfl⟩:∃ j',j=j'+1:=⟨j-1,by omega⟩
   refine fY ?_
   refine (Sp l (n-(j'+1)) hlen (fun r hr=>by rw [hc r hr];omega) .none 3 (.inl rfl)).use ?_
   obtain ⟨N,hN⟩:∃ N,N=YN l (n-(j'+1)):=⟨_,rfl⟩
   have hnl:=P8 l (n-(j'+1))
   rw [← hN] at hnl ⊢
   refine eW ?_
   by_cases hN0:N.length=0
   ·have e0:(((N.length:Nat):Int)=0)=True:=eq_true (by omega)
    have hne:YN l (n-(j'+1))=[]:=by rw [← hN];exact List.length_eq_zero_iff.1 hN0
    rw [Qm hne] at j3 ⊢
    try simp only [go_sem,Int.reduceEq,Int.reduceLT,Int.reduceLE,↓reduceIte,Nat.reduceEqDiff,Nat.reduceAdd,Nat.reduceSub,Nat.reduceLT,Nat.reduceLeDiff,Nat.reduceMul,reduceCtorEq,XD,e0,decide_true]
    intro b8' hb8'
    refine eo ?_
    rw [show IntKind.i64.wrap (((n-(j'+1):Nat):Int)+1)=((n-j':Nat):Int) from by rw [Zp (by omega) (by omega)];omega]
    exact .mk (j',b8') ⟨by simp only;omega,hb8'.2,by first | exact j3 | rfl⟩ (by simp only;omega) ⟨.refl _,trivial⟩ (by repeat first | exact Zf.turn _ rfl | refine Zf.put rfl ?_) .two
   ·have e0:(((N.length:Nat):Int)=0)=False:=eq_false (by omega)
    have hne:YN l (n-(j'+1))≠[]:=fun h=>hN0 (by rw [hN,h];rfl)
    rw [Qn hne,← hN]
    try simp only [go_sem,Int.reduceEq,Int.reduceLT,Int.reduceLE,↓reduceIte,Nat.reduceEqDiff,Nat.reduceAdd,Nat.reduceSub,Nat.reduceLT,Nat.reduceLeDiff,Nat.reduceMul,reduceCtorEq,XD,e0,decide_false]
    have hih:=IH j' (by omega) (by omega)
    have hjn:j'<n:=by omega
    obtain ⟨U,hU⟩:∃ U:Int→Store,U=fun x=>(b8,lfO ((n-(j'+1):Nat):Int))::(br,zeroT)::(b5,rwO l)::σ.set bl (lfO x):=⟨_,rfl⟩
    have hUs:∀ x y,(U x).set bl (lfO y)=U y:=fun x y=>by rw [hU];simp only;rw [Zk n8l,Zk nrl,Zk n5l,Zw]
    have hUS:∀ x,BSt n bl bn bb x (U x):=fun x=>⟨by rw [hU];simp only;rw [Za n8l,Za nrl,Za n5l,sgl],by rw [hU];simp only;rw [Za n8n,Za nrn,Za n5n,sgn];rfl,by rw [hU];simp only;rw [Za n8b,Za nrb,Za n5b,sgb];rfl⟩
    have hU5:∀ x,(U x).get b5=some (rwO l):=fun x=>by rw [hU];simp only;rw [Za n85,Za nr5,Zi]
    have hU8:∀ x,(U x).get b8=some (lfO ((n-(j'+1):Nat):Int)):=fun x=>by rw [hU];simp only;rw [Zi]
    have hUr:∀ x,(U x).get br=some zeroT:=fun x=>by rw [hU];simp only;rw [Za n8r,Zi]
    have hUe:((b8,AObj.cells [AV.val (Value.int IntKind.i64 ((n-(j'+1):Nat):Int))])::(br,zeroT)::(b5,.cells [.list .none 3 (cC l)])::σ.set bl (.cells [.val (.int .i64 left1)]):Store)=U left1:=by rw [hU];rfl
    rw [hUe]
    have hUnd:∀ x,((U x).map (·.1)).Nodup∨True:=fun _=>.inr trivial
    obtain ⟨nb,hnb⟩:∃ nb,nb=Tu n j':=⟨_,rfl⟩
    rw [← hnb]
    refine .cut [11,33,34,35,36,37] (R10 (nb (l.filter fun x=>YD (YT x ((n-(j'+1):Nat):Int)) XB) left1) ((n-(j'+1):Nat):Int) bl _) (T10 (nb (l.filter fun x=>YD (YT x ((n-(j'+1):Nat):Int)) XB) left1) bl _) (.opq2 8 10 (.val (.pointer (some ⟨b8,0,none⟩))) (.val (CM b5 b8 bb)) rfl rfl (fun S=>BSt n bl bn bb left1 S∧S.get b5=some (rwO l)∧S.get b8=some (lfO ((n-(j'+1):Nat):Int))) ⟨hUS _,hU5 _,hU8 _⟩ fun fr0 S0 h8 h10 hX=>?_) ?_ ?_
    ·obtain ⟨hX1,hX2,hX3⟩:=hX
     refine .ord (mu:=[5]) 0 (.alt 1 (.alt 2 (.alt 3 (.alt 4 (.alt 5 (.alt 6 .done .done) .done) (.alt 5 (.alt 4 (.alt 6 .done .done) .done) .done)) (.alt 5 (.alt 3 (.alt 4 (.alt 6 .done .done) .done) .done) .done)) (.alt 5 (.alt 2 (.alt 3 (.alt 4 (.alt 6 .done .done) .done) .done) .done) .done)) (.alt 2 (.alt 1 (.alt 3 (.alt 4 (.alt 5 (.alt 6 .done .done) .done) (.alt 5 (.alt 4 (.alt 6 .done .done) .done) .done)) (.alt 5 (.alt 3 (.alt 4 (.alt 6 .done .done) .done) .done) .done)) (.alt 5 (.alt 1 (.alt 3 (.alt 4 (.alt 6 .done .done) .done) .done) .done) .done)) (.alt 5 (.alt 1 (.alt 2 (.alt 3 (.alt 4 (.alt 6 .done .done) .done) .done) .done) (.alt 2 (.alt 1 (.alt 3 (.alt 4 (.alt 6 .done .done) .done) .done) .done) .done)) .done))) (.alt 1 (.alt 0 (.alt 2 (.alt 3 (.alt 4 (.alt 5 (.alt 6 .done .done) .done) (.alt 5 (.alt 4 (.alt 6 .done .done) .done) .done)) (.alt 5 (.alt 3 (.alt 4 (.alt 6 .done .done) .done) .done) .done)) (.alt 5 (.alt 2 (.alt 3 (.alt 4 (.alt 6 .done .done) .done) .done) .done) .done)) (.alt 2 (.alt 0 (.alt 3 (.alt 4 (.alt 5 (.alt 6 .done .done) .done) (.alt 5 (.alt 4 (.alt 6 .done .done) .done) .done)) (.alt 5 (.alt 3 (.alt 4 (.alt 6 .done .done) .done) .done) .done)) (.alt 3 (.alt 0 (.alt 4 (.alt 5 (.alt 6 .done .done) .done) (.alt 5 (.alt 4 (.alt 6 .done .done) .done) .done)) (.alt 5 (.alt 0 (.alt 4 (.alt 6 .done .done) .done) .done) .done)) (.alt 5 (.alt 0 (.alt 3 (.alt 4 (.alt 6 .done .done) .done) .done) (.alt 3 (.alt 0 (.alt 4 (.alt 6 .done .done) .done) .done) .done)) .done))) (.alt 5 (.alt 0 (.alt 2 (.alt 3 (.alt 4 (.alt 6 .done .done) .done) .done) .done) (.alt 2 (.alt 0 (.alt 3 (.alt 4 (.alt 6 .done .done) .done) .done) (.alt 3 (.alt 0 (.alt 4 (.alt 6 .done .done) .done) .done) .done)) .done)) .done))) (.alt 2 (.alt 0 (.alt 1 (.alt 3 (.alt 4 (.alt 5 (.alt 6 .done .done) .done) (.alt 5 (.alt 4 (.alt 6 .done .done) .done) .done)) (.alt 5 (.alt 3 (.alt 4 (.alt 6 .done .done) .done) .done) .done)) (.alt 5 (.alt 1 (.alt 3 (.alt 4 (.alt 6 .done .done) .done) .done) .done) .done)) (.alt 1 (.alt 0 (.alt 3 (.alt 4 (.alt 5 (.alt 6 .done .done) .done) (.alt 5 (.alt 4 (.alt 6 .done .done) .done) .done)) (.alt 5 (.alt 3 (.alt 4 (.alt 6 .done .done) .done) .done) .done)) (.alt 3 (.alt 0 (.alt 4 (.alt 5 (.alt 6 .done .done) .done) (.alt 5 (.alt 4 (.alt 6 .done .done) .done) .done)) (.alt 5 (.alt 0 (.alt 4 (.alt 6 .done .done) .done) .done) .done)) (.alt 5 (.alt 0 (.alt 3 (.alt 4 (.alt 6 .done .done) .done) .done) (.alt 3 (.alt 0 (.alt 4 (.alt 6 .done .done) .done) .done) .done)) .done))) (.alt 5 (.alt 0 (.alt 1 (.alt 3 (.alt 4 (.alt 6 .done .done) .done) .done) .done) (.alt 1 (.alt 0 (.alt 3 (.alt 4 (.alt 6 .done .done) .done) .done) (.alt 3 (.alt 0 (.alt 4 (.alt 6 .done .done) .done) .done) .done)) .done)) .done))) (.alt 5 (.alt 0 (.alt 1 (.alt 2 (.alt 3 (.alt 4 (.alt 6 .done .done) .done) .done) .done) (.alt 2 (.alt 1 (.alt 3 (.alt 4 (.alt 6 .done .done) .done) .done) .done) .done)) (.alt 1 (.alt 0 (.alt 2 (.alt 3 (.alt 4 (.alt 6 .done .done) .done) .done) .done) (.alt 2 (.alt 0 (.alt 3 (.alt 4 (.alt 6 .done .done) .done) .done) (.alt 3 (.alt 0 (.alt 4 (.alt 6 .done .done) .done) .done) .done)) .done)) (.alt 2 (.alt 0 (.alt 1 (.alt 3 (.alt 4 (.alt 6 .done .done) .done) .done) .done) (.alt 1 (.alt 0 (.alt 3 (.alt 4 (.alt 6 .done .done) .done) .done) (.alt 3 (.alt 0 (.alt 4 (.alt 6 .done .done) .done) .done) .done)) .done)) .done))) .done))) (by kernel_rfl) (by kernel_rfl) (by kernel_rfl) ?_
     have g8':=hX3
     simp only [lfO] at g8'
     simp only [CM] at h10
     have g8s:∀ x,(S0.set bl x).get b8=some (.cells [.val (.int .i64 ((n-(j'+1):Nat):Int))]):=fun x=>by rw [Zb n8l];exact g8'
     have hc0:=JW n bl bn bb j' hjn hn8 hih l XB left1 hlen hc hl10 hl14 b5 b8 S0 hX1 hX2 hX3
     have hc1:=fun (b11:Nat) (hb:Zx S0 b11)=>JW n bl bn bb j' hjn hn8 hih l XB left1 hlen hc hl10 hl14 b5 b8 ((b11,zeroT)::S0) ⟨by rw [Za (Zt hb hX1.gl)];exact hX1.gl,by rw [Za (Zt hb hX1.gn)];exact hX1.gn,by rw [Za (Zt hb hX1.gb)];exact hX1.gb⟩ (by rw [Za (Zt hb hX2)];exact hX2) (by rw [Za (Zt hb hX3)];exact hX3)
     rw [← hnb] at hc0 hc1
     simp only [XB,Cls.emb] at hc0 hc1
     rw [show ({ any:=true,name:=ZS }:Cls)=XB from rfl] at hc0 hc1
     cases hO:nb (l.filter fun x=>YD (YT x ((n-(j'+1):Nat):Int)) XB) left1 with
     | none =>
       rw [hO] at hc0 hc1
       refine eN ?_
       repeat' first
        | trivial
        | (refine (hc1 _ hb11).mono ?_
           rintro x S' ⟨rfl,yy,rfl⟩
           refine eN ?_
           refine .inr ⟨_,rfl,rfl,rfl,yy,?_⟩
           rw [Zk (Zt hb11 hX1.gl)]
           exact (Sub.refl _).skip _)
        | (refine hc0.mono ?_
           rintro x S' ⟨rfl,yy,rfl⟩
           refine eN ?_
           exact .inr ⟨_,rfl,rfl,rfl,yy,.refl _⟩)
        | (intro b11 hb11
           have n18:b11≠b8:=Zt hb11 hX3
           try simp only [go_sem,Int.reduceEq,Int.reduceLT,Int.reduceLE,↓reduceIte,Nat.reduceEqDiff,Nat.reduceAdd,Nat.reduceSub,Nat.reduceLT,Nat.reduceLeDiff,Nat.reduceMul,reduceCtorEq,XD,Yd,Yt,Yc,ZU,Z4,Yp,h8,h10,g8',g8s,n18])
        | apply And.intro
     | some q =>
       obtain ⟨tq,yy⟩:=q
       rw [hO] at hc0 hc1
       refine eN ?_
       repeat' first
        | trivial
        | (refine (hc1 _ hb11).mono ?_
           rintro x S' ⟨rfl,rfl⟩
           rw [Zk (Zt hb11 hX1.gl)]
           have n18:b11≠b8:=Zt hb11 hX3
           try simp only [go_sem,Int.reduceEq,Int.reduceLT,Int.reduceLE,↓reduceIte,Nat.reduceEqDiff,Nat.reduceAdd,Nat.reduceSub,Nat.reduceLT,Nat.reduceLeDiff,Nat.reduceMul,reduceCtorEq,XD,Yd,Yt,Yc,ZU,Z4,Yp,h8,h10,g8',g8s,n18])
        | (refine hc0.mono ?_
           rintro x S' ⟨rfl,rfl⟩
           try simp only [go_sem,Int.reduceEq,Int.reduceLT,Int.reduceLE,↓reduceIte,Nat.reduceEqDiff,Nat.reduceAdd,Nat.reduceSub,Nat.reduceLT,Nat.reduceLeDiff,Nat.reduceMul,reduceCtorEq,XD,Yd,Yt,Yc,ZU,Z4,Yp,h8,h10,g8',g8s])
        | (intro b11 hb11
           have n18:b11≠b8:=by first | exact Zt hb11 hX3 | exact Zt hb11 (g8s _)
           try simp only [go_sem,Int.reduceEq,Int.reduceLT,Int.reduceLE,↓reduceIte,Nat.reduceEqDiff,Nat.reduceAdd,Nat.reduceSub,Nat.reduceLT,Nat.reduceLeDiff,Nat.reduceMul,reduceCtorEq,XD,Yd,Yt,Yc,ZU,Z4,Yp,h8,h10,g8',g8s,n18])
        | apply And.intro
        | (refine .inl ⟨rfl,?_,tq,yy,b11,rfl,?_,rfl,rfl⟩
           ·repeat first | exact Zf.refl _ _ | refine Zf.put rfl ?_
           ·first | exact hb11 | (rw [XF] at hb11;exact hb11))
    ·rintro fr1 σ1 hks ⟨t,y,b11,hO,hf11,h11,rfl⟩
     rw [hUs]
     have hby:=JX n j' _ _ _ _ (by rw [hnb] at hO;exact hO)
     have hUf:∀ x b,Zx (U left1) b→Zx (U x) b:=fun x b h=>by rw [← hUs left1 x,XF];exact h
     have hsub:∀ (x yy:Int) (S:Store),Has (U x) S→(S.get bl).isSome=true→Has (σ.set bl (lfO yy)) (S.set bl (lfO yy)):=fun x yy S h hs=>by
      have h2:Has (σ.set bl (lfO x)) S:=fun q hq=>h q (by rw [hU];simp [hq])
      have:=h2.setb (b:=bl) (x:=lfO yy) (by rw [WK];exact hnd) hs
      rwa [Zw] at this
     refine AWp.wk (ZD (mu:=[5]) (dr:=[(10,1000,0),(14,11,9)]) (by kernel_rfl) _ (by kernel_rfl) _ _ _ ?_) (Sf.of_turn hks [(11,.val (.pointer (some ⟨b11,0,none⟩)))] ⟨by rw [h11];exact .refl _,trivial⟩) (.refl _)
     refine eW ?_
     refine Zv (mu:=[5]) (dr:=[(10,1000,0),(14,11,9)]) [13,40,41,42,43,44,45,46,47,48,49,50,51,52,53,54,55,56,57] (fun x:Nat×Int×List Cs×AV×Store=>[(40,vi x.1)]) (fun x=>x.2.2.2.2) (fun x=>x.1≤N.length∧x.2.2.1.length=x.1∧0≤x.2.1∧x.2.1≤4000∧XH nb l ((n-(j'+1):Nat):Int) N y=(match XH nb l ((n-(j'+1):Nat):Int) (N.drop x.1) x.2.1 with | none=>none | some (c2,y2)=>some (x.2.2.1++c2,y2))∧LV (U x.2.1) x.2.2.2.2 x.2.2.2.1 7 (cP x.2.2.1)∧x.2.2.2.2.get b11=some (.cells [vi 2,.list .full 0 [],vi ((n-(j'+1):Nat):Int),.list .none 6 (cD [t]),x.2.2.2.1,.list .full 0 []])∧Has (U x.2.1) x.2.2.2.2∧XS (U x.2.1) x.2.2.2.2)
      (fun x=>N.length-x.1) (0,y,[],.list .full 0 [],(b11,.cells [vi 2,.list .full 0 [],vi ((n-(j'+1):Nat):Int),.list .none 6 (cD [t]),.list .full 0 [],.list .full 0 []])::U y) (by kernel_rfl) ⟨by simp,rfl,by simp only;omega,by simp only;omega,by simp only [List.drop_zero];cases XH nb l ((n-(j'+1):Nat):Int) N y<;>simp,LV.nil _ _ _,Zi _ _ _,(Has.refl _).cons _,.cons (hUf _ _ hf11) _⟩ ⟨.refl _,trivial⟩ (.refl _) ?_
     rintro ⟨i,x,cs,v,S⟩ ⟨i1,i2,i3,i4,i5,i6,i7,i8,i9⟩
     simp only at i1 i2 i3 i4 i5 i6 i7 i8 i9
     have hSl:=i9 bl _ (hUS x).gl
     have hSsome:(S.get bl).isSome=true:=by rw [hSl];rfl
     have hSS:BSt n bl bn bb x S:=⟨hSl,i9 _ _ (hUS x).gn,i9 _ _ (hUS x).gb⟩
     have hS5:=i9 _ _ (hU5 x)
     have hS8:=i9 _ _ (hU8 x)
     have hSr:=i9 _ _ (hUr x)
     have n1l:b11≠bl:=fun e=>by rw [e,hSl] at i7;cases i7
     have n1r:b11≠br:=Zt hf11 (hUr _)
     have hset:∀ z,XS (U z) (S.set bl (lfO z)):=fun z=>by rw [← hUs x z];exact i9.setb bl (lfO z)
     have hsetH:∀ z,Has (U z) (S.set bl (lfO z)):=fun z=>by
      intro q hq
      rw [hU] at hq
      simp only [List.mem_cons] at hq
      have hx:∀ q,q∈U x→q∈S:=i8
      rw [hU] at hx
      rcases hq with rfl | rfl | rfl | hq
      ·exact X0 _ (hx _ (by simp)) n8l
      ·exact X0 _ (hx _ (by simp)) nrl
      ·exact X0 _ (hx _ (by simp)) n5l
      ·exact hsub x z S i8 hSsome q hq
     have g11s:∀ z,(S.set bl (lfO z)).get b11=some (.cells [vi 2,.list .full 0 [],vi ((n-(j'+1):Nat):Int),.list .none 6 (cD [t]),v,.list .full 0 []]):=fun z=>by rw [Zb n1l];exact i7
     refine eW ?_
     refine ⟨fun h1=>⟨by omega,h1,fun d hd=>?_⟩,fun h1=>?_⟩
     ·rw [Int.toNat_natCast] at hd
      obtain ⟨s,hs,rfl⟩:=Yo hd
      have hdr:N.drop i=s::N.drop (i+1):=List.drop_eq_getElem_cons (List.getElem?_eq_some_iff.1 hs).1 |>.trans (by rw [(List.getElem?_eq_some_iff.1 hs).2])
      rw [hdr] at i5
      have hcall:=JW n bl bn bb j' hjn hn8 hih l ⟨false,s⟩ x hlen hc i3 i4 b5 b8 S hSS hS5 hS8
      rw [← hnb] at hcall
      simp only [Cls.emb] at hcall
      try simp only [go_sem,Int.reduceEq,Int.reduceLT,Int.reduceLE,↓reduceIte,Nat.reduceEqDiff,Nat.reduceAdd,Nat.reduceSub,Nat.reduceLT,Nat.reduceLeDiff,Nat.reduceMul,reduceCtorEq,XD,i7,CM]
      refine hcall.mono ?_
      intro r S1 hr
      cases hq:nb (l.filter fun x=>YD (YT x ((n-(j'+1):Nat):Int)) ⟨false,s⟩) x with
      | none =>
        rw [hq] at hr
        obtain ⟨rfl,z,rfl⟩:=hr
        have hno:XH nb l ((n-(j'+1):Nat):Int) N y=none:=by rw [i5];simp only [XH,hq]
        refine eo ?_
        intro fr'
        refine eo ?_
        rw [ID hO hno]
        exact .mk ((hsub x z S i8 hSsome).sub (by rw [WK];exact hnd)) ⟨rfl,z,rfl⟩
      | some q =>
        obtain ⟨tq,z⟩:=q
        rw [hq] at hr
        obtain ⟨rfl,rfl⟩:=hr
        have hbz:=JX n j' _ _ _ _ (by rw [hnb] at hq;exact hq)
        obtain ⟨kq,pq,aq,yq,cq,eq⟩:=tq
        simp only [cD,cm] at i7 g11s ⊢
        try simp only [go_sem,Int.reduceEq,Int.reduceLT,Int.reduceLE,↓reduceIte,Nat.reduceEqDiff,Nat.reduceAdd,Nat.reduceSub,Nat.reduceLT,Nat.reduceLeDiff,Nat.reduceMul,reduceCtorEq,XD,g11s,List.length_singleton]
        refine ⟨by decide,fun d hd=>?_⟩
        have hd2:=Option.some.inj hd
        rw [← hd2]
        try simp only [go_sem,Int.reduceEq,Int.reduceLT,Int.reduceLE,↓reduceIte,Nat.reduceEqDiff,Nat.reduceAdd,Nat.reduceSub,Nat.reduceLT,Nat.reduceLeDiff,Nat.reduceMul,reduceCtorEq,XD,g11s]
        have hlv:LV (U z) (S.set bl (lfO z)) v 7 (cP cs):=(i6.set hSl (by intro _ _ h;cases h) _).base (fun b h=>by rw [← hUs x z,XF];exact h)
        refine ⟨rfl,hlv.append2 rfl (by decide) (by rw [cF];simp only [List.length_singleton];omega) rfl (by simp) (hsetH z) (fun v' S' hv' hkin hk hH=>?_)⟩
        have g11':=hk b11 _ (g11s z) (by intro _ _ h;cases h)
        have hS':XS (U z) S':=fun k o h=>hkin k o (by rw [h];rfl) (hset z k o h)
        try simp only [go_sem,Int.reduceEq,Int.reduceLT,Int.reduceLE,↓reduceIte,Nat.reduceEqDiff,Nat.reduceAdd,Nat.reduceSub,Nat.reduceLT,Nat.reduceLeDiff,Nat.reduceMul,reduceCtorEq,XD,g11',hv'.one,hv'.cells]
        rw [show IntKind.i64.wrap ((i:Int)+1)=((i+1:Nat):Int) from Zp (by omega) (by omega)]
        refine .mk (i+1,z,cs++[.mk s (.mk kq pq aq yq cq eq)],v',_) ⟨by simp only;omega,by simp only [List.length_append,i2,List.length_singleton],by simp only;omega,by simp only;omega,?_,?_,Zd g11',hH.set (hUf z b11 hf11) _,fun k o h=>?_⟩ (by simp only;omega) ⟨.refl _,trivial⟩ (by repeat first | exact Zf.turn _ rfl | refine Zf.put rfl ?_ | refine cL _ rfl rfl ?_) (.refl _)
        ·rw [i5];simp only [XH,hq]
         cases XH nb l ((n-(j'+1):Nat):Int) (N.drop (i+1)) z<;>simp
        ·have he:cP (cs++[.mk s (.mk kq pq aq yq cq eq)])=cP cs++[(Cs.mk s (.mk kq pq aq yq cq eq)).emb]:=by simp [dv]
         simp only
         rw [he]
         exact hv'.set g11' (by intro _ _ h;cases h) _
        ·have hne:k≠b11:=fun e=>by rw [e,Zm (hUf z b11 hf11)] at h;cases h
         simp only
         rw [Zb hne];exact hS' k o h
     ·have hdn:N.drop i=[]:=List.drop_of_length_le (by omega)
      rw [hdn] at i5
      simp only [XH,List.append_nil] at i5
      rw [IC hO i5]
      have hcall:=JW n bl bn bb j' hjn hn8 hih l ⟨false,ZS⟩ x hlen hc i3 i4 b5 b8 S hSS hS5 hS8
      rw [← hnb] at hcall
      simp only [Cls.emb] at hcall
      try simp only [go_sem,Int.reduceEq,Int.reduceLT,Int.reduceLE,↓reduceIte,Nat.reduceEqDiff,Nat.reduceAdd,Nat.reduceSub,Nat.reduceLT,Nat.reduceLeDiff,Nat.reduceMul,reduceCtorEq,XD,CM]
      refine hcall.mono ?_
      intro r S1 hr
      cases hq:nb (l.filter fun x=>YD (YT x ((n-(j'+1):Nat):Int)) ⟨false,ZS⟩) x with
      | none =>
        rw [hq] at hr
        obtain ⟨rfl,z,rfl⟩:=hr
        refine eo ?_
        exact .mk ((hsub x z S i8 hSsome).sub (by rw [WK];exact hnd)) ⟨rfl,z,rfl⟩
      | some q =>
        obtain ⟨tq,z⟩:=q
        rw [hq] at hr
        obtain ⟨rfl,rfl⟩:=hr
        have h11t:∀ o,((S.set bl (lfO z)).set b11 o).get b11=some o:=fun o=>Zd (g11s z)
        have hrt:∀ o,((S.set bl (lfO z)).set b11 o).get br=some zeroT:=fun o=>by rw [Zb (Ne.symm n1r),Zb nrl];exact hSr
        have hrt2:∀ o o',(((S.set bl (lfO z)).set b11 o).set br o').get br=some o':=fun o o'=>Zd (hrt o)
        try simp only [go_sem,Int.reduceEq,Int.reduceLT,Int.reduceLE,↓reduceIte,Nat.reduceEqDiff,Nat.reduceAdd,Nat.reduceSub,Nat.reduceLT,Nat.reduceLeDiff,Nat.reduceMul,reduceCtorEq,XD,g11s,h11t,hrt,hrt2,i6.one,i6.cells]
        have hf1:Zx σ b11:=by
         have h:=hf11
         rw [hU] at h
         have h:=h.2.2.2
         rw [XF] at h;exact h
        refine .mk ?_ ((((hsub x z S i8 hSsome).set (b:=b11) (by rw [XF];exact hf1) _).set (b:=br) (by rw [XF];exact hbr.2) _).sub (by rw [WK];exact hnd)) ⟨rfl,rfl⟩
        refine Wk.agg rfl (fun i c c' h h'=>?_)
        match i with
        | 0=>simp [cm] at h h';subst h;subst h';exact .refl _
        | 1=>simp [cm] at h h';subst h;subst h';exact .nilA _ _ _
        | 2=>simp [cm] at h h';subst h;subst h';exact .refl _
        | 3=>simp [cm] at h h';subst h;subst h';exact .refl _
        | 4=>simp [cm] at h h';subst h;subst h';exact i6.wk
        | 5=>simp [cm] at h h';subst h;subst h';exact .refl _
        | i+6=>simp at h
    ·rintro pv fr' σ' ⟨rfl,hO,yy,hsub⟩
     have hno:Ut nb l ((n-(j'+1):Nat):Int) N left1=none:=by simp only [Ut,hO]
     refine eo ?_
     rw [hno]
     rw [hUs] at hsub
     exact .mk (Sub.trans (by rw [hU];exact ((Sub.refl _).skip _).skip _ |>.skip _) hsub) ⟨rfl,yy,rfl⟩
  ·have hj0:j=0:=by omega
   subst hj0
   rw [Ql]
   refine fY ?_
   refine (OX l .none 3 (.inl rfl)).use ?_
   try simp only [go_sem,Int.reduceEq,Int.reduceLT,Int.reduceLE,↓reduceIte,Nat.reduceEqDiff,Nat.reduceAdd,Nat.reduceSub,Nat.reduceLT,Nat.reduceLeDiff,Nat.reduceMul,reduceCtorEq,XD,n8r]
   refine .mk ?_ (((Sub.refl _).skip _).skip _ |>.skip _) ⟨rfl,rfl⟩
   simp only [cm,cD,cP]
   exact .agg rfl (fun i c c' h h'=>by
    match i with
    | 0=>simp at h h';subst h;subst h';exact .refl _
    | 1=>simp at h h';subst h;subst h';exact .refl _
    | 2=>simp at h h';subst h;subst h';exact .refl _
    | 3=>simp at h h';subst h;subst h';exact .nilA _ _ _
    | 4=>simp at h h';subst h;subst h';exact .nilA _ _ _
    | 5=>simp at h h';subst h;subst h';exact .nilA _ _ _
    | i+6=>simp at h)
end
end Go.Vx
