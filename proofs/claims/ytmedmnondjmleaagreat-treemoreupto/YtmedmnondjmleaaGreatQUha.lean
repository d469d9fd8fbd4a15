/- Part QUha of the proof of treeMoreProved: the walk of the program on abstract values, and the plain law. -/
import Derived.Test.YtmedmnondjmleaaGreatQ35
set_option linter.unusedVariables false
set_option linter.unusedSimpArgs false
set_option maxRecDepth 100000
namespace Go.Vx
open Go.Proofs
theorem Qs (n:Nat)(l:List Row)(left:Int):Xk n 0 l left=some (.mk 1 (l.map Row.pick) 0 [] [] [],left):=rfl
theorem Qt {n k:Nat}{l:List Row}{left:Int}(h:Z5 l (n-(k+1))=[]):Xk n (k+1) l left=Xk n k l left:=by simp only [Xk,h,if_true]
theorem Qu {n k:Nat}{l:List Row}{left:Int}(h:Z5 l (n-(k+1))≠[]):Xk n (k+1) l left=VG (UQ n k) l ((n-(k+1):Nat):Int) (Z5 l (n-(k+1))) left:=by
 simp only [Xk,if_neg h];rfl
theorem Fd {B:List Row→Int→Option (Tr×Int)}(hB:∀ l x t y,B l x=some (t,y)→y≤x∧(0≤x→0≤y)){l:List Row}{a:Int}{ns:List Str}{x:Int}{t:Tr}{y:Int}(h:VG B l a ns x=some (t,y)):y≤x∧(0≤x→0≤y):=by
 have hc:∀ (ns:List Str) (x:Int) (cs:List Cs) (y:Int),YS B l a ns x=some (cs,y)→y≤x∧(0≤x→0≤y):=by
  intro ns
  induction ns with
  | nil=>intro x cs y h;simp only [YS,Option.some.injEq,Prod.mk.injEq] at h;omega
  | cons s r ih =>
    intro x cs y h
    simp only [YS] at h
    cases h1:B (l.filter fun x=>Z2 (ZW x a) ⟨false,s⟩) x with
    | none=>rw [h1] at h;cases h
    | some q =>
      rw [h1] at h;simp only at h
      cases h2:YS B l a r q.2 with
      | none=>rw [h2] at h;cases h
      | some q2 =>
        rw [h2] at h
        simp only [Option.some.injEq,Prod.mk.injEq] at h
        have b1:=hB _ _ _ _ h1
        have b2:=ih _ _ _ h2
        omega
 unfold VG at h
 cases h1:B (l.filter fun x=>Z2 (ZW x a) YX) x with
 | none=>rw [h1] at h;cases h
 | some q1 =>
   rw [h1] at h;simp only at h
   cases h2:YS B l a ns q1.2 with
   | none=>rw [h2] at h;cases h
   | some q2 =>
     rw [h2] at h;simp only at h
     cases h3:B (l.filter fun x=>Z2 (ZW x a) ⟨false,emptyS⟩) q2.2 with
     | none=>rw [h3] at h;cases h
     | some q3 =>
       rw [h3] at h
       simp only [Option.some.injEq,Prod.mk.injEq] at h
       have b1:=hB _ _ _ _ h1
       have b2:=hc _ _ _ _ h2
       have b3:=hB _ _ _ _ h3
       omega
theorem JV (n:Nat):∀ (k:Nat) (l:List Row) (x:Int) (t:Tr) (y:Int),UQ n k l x=some (t,y)→y≤x∧(0≤x→0≤y):=by
 have hl:∀ (k:Nat) (l:List Row) (x:Int) (t:Tr) (y:Int),Xk n k l x=some (t,y)→y≤x∧(0≤x→0≤y):=by
  intro k
  induction k with
  | zero=>intro l x t y h;rw [Qs] at h;simp only [Option.some.injEq,Prod.mk.injEq] at h;omega
  | succ k ih =>
    intro l x t y h
    by_cases hn:Z5 l (n-(k+1))=[]
    ·rw [Qt hn] at h;exact ih _ _ _ _ h
    ·rw [Qu hn] at h
     refine Fd (fun l x t y h=>?_) h
     unfold UQ at h
     split at h
     ·cases h
     ·have:=ih _ _ _ _ h;omega
 intro k l x t y h
 unfold UQ at h
 split at h
 ·cases h
 ·have:=hl _ _ _ _ _ h;omega
theorem Sub.two {p q:Nat×AObj}{σ:Store}:Sub (p::σ) (p::q::σ) :=
 ⟨fun x hx=>by simp only [List.mem_cons] at hx ⊢;rcases hx with h | h<;>simp [h],fun h=>by simp only [List.map_cons,List.nodup_cons,List.mem_cons,not_or] at h ⊢;exact ⟨h.1.2,h.2.2⟩⟩
theorem XY.setb {A S:Store}(h:XY A S)(b:Nat)(o:AObj):XY (A.set b o) (S.set b o):=by
 intro c x hx
 rw [QM] at hx ⊢
 split
 ·rename_i e
  rw [if_pos e] at hx
  cases hA:A.get b with
  | none=>rw [hA] at hx;cases hx
  | some z=>rw [h b z hA];rw [hA] at hx;exact hx
 ·rename_i e;rw [if_neg e] at hx;exact h c x hx
abbrev zeroT:AObj:=.cells [vi 0,.list .full 0 [],vi 0,.list .full 0 [],.list .full 0 [],.list .full 0 []]
def R10 (o:Option (Tr×Int))(arg:Int)(bl:Nat)(S0:Store):Fr→Store→Prop:=fun fr' σ'=>∃ t y b11,o=some (t,y)∧Zx S0 b11∧fr' 11=.val (.pointer (some ⟨b11,0,none⟩)) ∧
 σ'=(b11,.cells [vi 2,.list .full 0 [],vi arg,.list .none 6 (cm [t]),.list .full 0 [],.list .full 0 []])::S0.set bl (lfO y)
def T10 (o:Option (Tr×Int))(bl:Nat)(S0:Store):Value→Store→Prop:=fun pv σ'=>pv=tlV∧o=none∧∃ y,Sub (S0.set bl (lfO y)) σ'
theorem AWp.opq2 {P:Program}{n:Nat}{ds:List Deferred}{c:Code}{ch:List Nat}{fr:Fr}{σ:Store}{R:Store→Fr→Store→Prop}{T:Store→Value→Store→Prop}(k k':Nat)(v v':AV)(hk:fr k=v)(hk':fr k'=v')(X:Store→Prop)(hX:X σ)
 (h:∀ (fr0:Fr) (S0:Store),fr0 k=v→fr0 k'=v'→X S0→AWp P n ds c (Cut ch fr0 (R S0) (T S0)) fr0 S0):AWp P n ds c (Cut ch fr (R σ) (T σ)) fr σ:=h fr σ hk hk' hX
theorem LV.base {σ0 σ1 S:Store}{v:AV}{sz:Nat}{es:List (List AV)}(h:LV σ0 S v sz es)(hf:∀ b,Zx σ0 b→Zx σ1 b):LV σ1 S v sz es:=by
 obtain ⟨rt,s',e,hz,ht⟩:=h
 exact ⟨rt,s',e,hz,ht.imp id (fun ⟨b,e,c,h1,h2,h3,h4⟩=>⟨b,e,c,h1,h2,h3,hf b h4⟩)⟩
theorem ID {B:List Row→Int→Option (Tr×Int)}{l:List Row}{a:Int}{ns:List Str}{x y:Int}{t:Tr}(h:B (l.filter fun x=>Z2 (ZW x a) YX) x=some (t,y))(hc:YS B l a ns y=none):VG B l a ns x=none:=by
 simp only [VG,h,hc]
theorem IC {B:List Row→Int→Option (Tr×Int)}{l:List Row}{a:Int}{ns:List Str}{x y z:Int}{t:Tr}{cs:List Cs}(h:B (l.filter fun x=>Z2 (ZW x a) YX) x=some (t,y))(hc:YS B l a ns y=some (cs,z)) :
 VG B l a ns x=match B (l.filter fun x=>Z2 (ZW x a) ⟨false,emptyS⟩) z with | none=>none | some (tE,n3)=>some (.mk 2 [] a [t] cs [tE],n3):=by
 simp only [VG,h,hc]
 cases B (l.filter fun x=>Z2 (ZW x a) ⟨false,emptyS⟩) z<;>rfl
section
variable (n bl bn bb:Nat)
set_option maxHeartbeats 2000000 in
theorem Cz (nln:bn≠bl)(nlb:bb≠bl)(hn8:n≤1000):∀ k,k≤n→BIH n bl bn bb k:=by
 intro k
 induction k using Nat.strongRecOn with
 | _ k IH =>
 intro hkn l left σ hlen hc hl0 hl4 hS
 refine Zi.nodup (by kernel_rfl) (fun hnd=>?_)
 have hgl:=hS.gl
 have hgn:=hS.gn
 have hgb:=hS.gb
 simp only [lfO,Nw] at hgl hgn hgb
 have sgn:∀ x,(σ.set bl x).get bn=some (.cells [vi n]):=fun x=>by rw [Zc nln];exact hgn
 have sgb:∀ x,(σ.set bl x).get bb=some (.cells [.val (.func (.func 52) #[] #[.pointer (some ⟨bl,0,none⟩),.pointer (some ⟨bn,0,none⟩),.pointer (some ⟨bb,0,none⟩)])]):=fun x=>by rw [Zc nlb];exact hgb
 have sgl:∀ x,(σ.set bl x).get bl=some x:=fun x=>Zd hgl
 refine Zb [5] [(10,1000,0),(14,11,9)] Tryz.func52 rfl (by kernel_rfl) ?_;rw [Tryz.ntmps52,Tryz.results52]
 refine ea ?_
 intro b5 hb5 br hbr
 have n5l:b5≠bl:=Zt hb5 hgl
 have n5n:b5≠bn:=Zt hb5 hgn
 have n5b:b5≠bb:=Zt hb5 hgb
 have nr5:br≠b5:=Ne.symm hbr.1
 have nrl:br≠bl:=Zt hbr.2 hgl
 have nrn:br≠bn:=Zt hbr.2 hgn
 have nrb:br≠bb:=Zt hbr.2 hgb
 refine gi ?_
 rw [Zp (x:=left-1) (by omega) (by omega)]
 refine gi ?_
 refine ⟨fun hneg=>?_,fun hneg=>?_⟩
 ·have hbs:UQ n k l left=none:=by unfold UQ;rw [if_pos (by omega)]
  rw [hbs]
  refine ea ?_
  exact .mk (((Sub.refl _).skip _).skip _) ⟨rfl,_,rfl⟩
 ·have hbs:UQ n k l left=Xk n k l (left-1):=by unfold UQ;rw [if_neg (by omega)]
  rw [hbs]
  obtain ⟨left1,hle⟩:∃ x,x=left-1:=⟨_,rfl⟩
  rw [← hle]
  have hl10:0≤left1:=by omega
  have hl14:left1≤4000:=by omega
  refine ea ?_
  intro b8 hb8
  have n8r:b8≠br:=Ne.symm hb8.1
  have n85:b8≠b5:=Ne.symm hb8.2.1
  refine ea ?_
  refine Zw (mu:=[5]) (dr:=[(10,1000,0),(14,11,9)]) [8,9,10,11,13,21,22,23,24,25,26,27,28,29,30,31,32,33,34,35,36,37,38,39,40,41,42,43,44,45,46,47,48,49,50,51,52,53,54,55,56,57,58,59,60,61,62,63] (fun x:Nat×Nat=>[(8,.val (.pointer (some ⟨x.2,0,none⟩)))]) (fun x=>(x.2,lfO ((n-x.1:Nat):Int))::(br,zeroT)::(b5,rwO l)::σ.set bl (lfO left1)) (fun x=>x.1≤k∧Zx ((br,zeroT)::(b5,rwO l)::σ.set bl (lfO left1)) x.2∧Xk n k l left1=Xk n x.1 l left1) (fun x=>x.1) (k,b8) (by kernel_rfl) ⟨by simp,hb8,rfl⟩ ⟨.refl _,trivial⟩ (.refl _) ?_
  rintro ⟨j,b8⟩ ⟨j1,hb8,j3⟩
  simp only at j1 hb8 j3
  have n8r:b8≠br:=Ne.symm hb8.1
  have n85:b8≠b5:=Ne.symm hb8.2.1
  have hb8s:=hb8.2.2
  have n8l:b8≠bl:=Zt hb8s (sgl _)
  have n8n:b8≠bn:=Zt hb8s (sgn _)
  have n8b:b8≠bb:=Zt hb8s (sgb _)
  rw [j3]
  try simp only [go_sem,Int.reduceEq,Int.reduceLT,Int.reduceLE,↓reduceIte,Nat.reduceEqDiff,Nat.reduceAdd,Nat.reduceSub,Nat.reduceLT,Nat.reduceLeDiff,Nat.reduceMul,reduceCtorEq,XH,lfO,n8n,nrn,n5n,sgn]
  refine ⟨fun hlt=>?_,fun hlt=>?_⟩
  ·obtain ⟨j',rfl⟩:∃ j',j=j'+1:=⟨j-1,by omega⟩
   refine fW ?_
   refine (Sw l (n-(j'+1)) hlen (fun r hr=>by rw [hc r hr];omega) .none 3 (.inl rfl)).use ?_
   obtain ⟨N,hN⟩:∃ N,N=Z5 l (n-(j'+1)):=⟨_,rfl⟩
   have hnl:=Oa l (n-(j'+1))
   rw [← hN] at hnl ⊢
   refine eT ?_
   by_cases hN0:N.length=0
   ·have e0:(((N.length:Nat):Int)=0)=True:=eq_true (by omega)
    have hne:Z5 l (n-(j'+1))=[]:=by rw [← hN];exact List.length_eq_zero_iff.1 hN0
    rw [Qt hne] at j3 ⊢
    try simp only [go_sem,Int.reduceEq,Int.reduceLT,Int.reduceLE,↓reduceIte,Nat.reduceEqDiff,Nat.reduceAdd,Nat.reduceSub,Nat.reduceLT,Nat.reduceLeDiff,Nat.reduceMul,reduceCtorEq,XH,e0,decide_true]
    intro b8' hb8'
    refine ea ?_
    rw [show IntKind.i64.wrap (((n-(j'+1):Nat):Int)+1)=((n-j':Nat):Int) from by rw [Zp (by omega) (by omega)];omega]
    exact .mk (j',b8') ⟨by simp only;omega,hb8'.2,by first | exact j3 | rfl⟩ (by simp only;omega) ⟨.refl _,trivial⟩ (by repeat first | exact Zg.turn _ rfl | refine Zg.put rfl ?_) .two
   ·have e0:(((N.length:Nat):Int)=0)=False:=eq_false (by omega)
    have hne:Z5 l (n-(j'+1))≠[]:=fun h=>hN0 (by rw [hN,h];rfl)
    rw [Qu hne,← hN]
    try simp only [go_sem,Int.reduceEq,Int.reduceLT,Int.reduceLE,↓reduceIte,Nat.reduceEqDiff,Nat.reduceAdd,Nat.reduceSub,Nat.reduceLT,Nat.reduceLeDiff,Nat.reduceMul,reduceCtorEq,XH,e0,decide_false]
    have hih:=IH j' (by omega) (by omega)
    have hjn:j'<n:=by omega
    obtain ⟨U,hU⟩:∃ U:Int→Store,U=fun x=>(b8,lfO ((n-(j'+1):Nat):Int))::(br,zeroT)::(b5,rwO l)::σ.set bl (lfO x):=⟨_,rfl⟩
    have hUs:∀ x y,(U x).set bl (lfO y)=U y:=fun x y=>by rw [hU];simp only;rw [Zk n8l,Zk nrl,Zk n5l,Zu]
    have hUS:∀ x,BSt n bl bn bb x (U x):=fun x=>⟨by rw [hU];simp only;rw [Za n8l,Za nrl,Za n5l,sgl],by rw [hU];simp only;rw [Za n8n,Za nrn,Za n5n,sgn];rfl,by rw [hU];simp only;rw [Za n8b,Za nrb,Za n5b,sgb];rfl⟩
    have hU5:∀ x,(U x).get b5=some (rwO l):=fun x=>by rw [hU];simp only;rw [Za n85,Za nr5,Zj]
    have hU8:∀ x,(U x).get b8=some (lfO ((n-(j'+1):Nat):Int)):=fun x=>by rw [hU];simp only;rw [Zj]
    have hUr:∀ x,(U x).get br=some zeroT:=fun x=>by rw [hU];simp only;rw [Za n8r,Zj]
    have hUe:((b8,AObj.cells [AV.val (Value.int IntKind.i64 ((n-(j'+1):Nat):Int))])::(br,zeroT)::(b5,.cells [.list .none 3 (cx l)])::σ.set bl (.cells [.val (.int .i64 left1)]):Store)=U left1:=by rw [hU];rfl
    rw [hUe]
    have hUnd:∀ x,((U x).map (·.1)).Nodup∨True:=fun _=>.inr trivial
    obtain ⟨nb,hnb⟩:∃ nb,nb=UQ n j':=⟨_,rfl⟩
    rw [← hnb]
    refine .cut [11,33,34,35,36,37] (R10 (nb (l.filter fun x=>Z2 (ZW x ((n-(j'+1):Nat):Int)) YX) left1) ((n-(j'+1):Nat):Int) bl _) (T10 (nb (l.filter fun x=>Z2 (ZW x ((n-(j'+1):Nat):Int)) YX) left1) bl _) (.opq2 8 10 (.val (.pointer (some ⟨b8,0,none⟩))) (.val (CA b5 b8 bb)) rfl rfl (fun S=>BSt n bl bn bb left1 S∧S.get b5=some (rwO l)∧S.get b8=some (lfO ((n-(j'+1):Nat):Int))) ⟨hUS _,hU5 _,hU8 _⟩ fun fr0 S0 h8 h10 hX=>?_) ?_ ?_
    ·obtain ⟨hX1,hX2,hX3⟩:=hX
     refine .ord (mu:=[5]) 0 (.alt 1 (.alt 2 (.alt 3 (.alt 4 (.alt 5 (.alt 6 .done .done) .done) (.alt 5 (.alt 4 (.alt 6 .done .done) .done) .done)) (.alt 5 (.alt 3 (.alt 4 (.alt 6 .done .done) .done) .done) .done)) (.alt 5 (.alt 2 (.alt 3 (.alt 4 (.alt 6 .done .done) .done) .done) .done) .done)) (.alt 2 (.alt 1 (.alt 3 (.alt 4 (.alt 5 (.alt 6 .done .done) .done) (.alt 5 (.alt 4 (.alt 6 .done .done) .done) .done)) (.alt 5 (.alt 3 (.alt 4 (.alt 6 .done .done) .done) .done) .done)) (.alt 5 (.alt 1 (.alt 3 (.alt 4 (.alt 6 .done .done) .done) .done) .done) .done)) (.alt 5 (.alt 1 (.alt 2 (.alt 3 (.alt 4 (.alt 6 .done .done) .done) .done) .done) (.alt 2 (.alt 1 (.alt 3 (.alt 4 (.alt 6 .done .done) .done) .done) .done) .done)) .done))) (.alt 1 (.alt 0 (.alt 2 (.alt 3 (.alt 4 (.alt 5 (.alt 6 .done .done) .done) (.alt 5 (.alt 4 (.alt 6 .done .done) .done) .done)) (.alt 5 (.alt 3 (.alt 4 (.alt 6 .done .done) .done) .done) .done)) (.alt 5 (.alt 2 (.alt 3 (.alt 4 (.alt 6 .done .done) .done) .done) .done) .done)) (.alt 2 (.alt 0 (.alt 3 (.alt 4 (.alt 5 (.alt 6 .done .done) .done) (.alt 5 (.alt 4 (.alt 6 .done .done) .done) .done)) (.alt 5 (.alt 3 (.alt 4 (.alt 6 .done .done) .done) .done) .done)) (.alt 3 (.alt 0 (.alt 4 (.alt 5 (.alt 6 .done .done) .done) (.alt 5 (.alt 4 (.alt 6 .done .done) .done) .done)) (.alt 5 (.alt 0 (.alt 4 (.alt 6 .done .done) .done) .done) .done)) (.alt 5 (.alt 0 (.alt 3 (.alt 4 (.alt 6 .done .done) .done) .done) (.alt 3 (.alt 0 (.alt 4 (.alt 6 .done .done) .done) .done) .done)) .done))) (.alt 5 (.alt 0 (.alt 2 (.alt 3 (.alt 4 (.alt 6 .done .done) .done) .done) .done) (.alt 2 (.alt 0 (.alt 3 (.alt 4 (.alt 6 .done .done) .done) .done) (.alt 3 (.alt 0 (.alt 4 (.alt 6 .done .done) .done) .done) .done)) .done)) .done))) (.alt 2 (.alt 0 (.alt 1 (.alt 3 (.alt 4 (.alt 5 (.alt 6 .done .done) .done) (.alt 5 (.alt 4 (.alt 6 .done .done) .done) .done)) (.alt 5 (.alt 3 (.alt 4 (.alt 6 .done .done) .done) .done) .done)) (.alt 5 (.alt 1 (.alt 3 (.alt 4 (.alt 6 .done .done) .done) .done) .done) .done)) (.alt 1 (.alt 0 (.alt 3 (.alt 4 (.alt 5 (.alt 6 .done .done) .done) (.alt 5 (.alt 4 (.alt 6 .done .done) .done) .done)) (.alt 5 (.alt 3 (.alt 4 (.alt 6 .done .done) .done) .done) .done)) (.alt 3 (.alt 0 (.alt 4 (.alt 5 (.alt 6 .done .done) .done) (.alt 5 (.alt 4 (.alt 6 .done .done) .done) .done)) (.alt 5 (.alt 0 (.alt 4 (.alt 6 .done .done) .done) .done) .done)) (.alt 5 (.alt 0 (.alt 3 (.alt 4 (.alt 6 .done .done) .done) .done) (.alt 3 (.alt 0 (.alt 4 (.alt 6 .done .done) .done) .done) .done)) .done))) (.alt 5 (.alt 0 (.alt 1 (.alt 3 (.alt 4 (.alt 6 .done .done) .done) .done) .done) (.alt 1 (.alt 0 (.alt 3 (.alt 4 (.alt 6 .done .done) .done) .done) (.alt 3 (.alt 0 (.alt 4 (.alt 6 .done .done) .done) .done) .done)) .done)) .done))) (.alt 5 (.alt 0 (.alt 1 (.alt 2 (.alt 3 (.alt 4 (.alt 6 .done .done) .done) .done) .done) (.alt 2 (.alt 1 (.alt 3 (.alt 4 (.alt 6 .done .done) .done) .done) .done) .done)) (.alt 1 (.alt 0 (.alt 2 (.alt 3 (.alt 4 (.alt 6 .done .done) .done) .done) .done) (.alt 2 (.alt 0 (.alt 3 (.alt 4 (.alt 6 .done .done) .done) .done) (.alt 3 (.alt 0 (.alt 4 (.alt 6 .done .done) .done) .done) .done)) .done)) (.alt 2 (.alt 0 (.alt 1 (.alt 3 (.alt 4 (.alt 6 .done .done) .done) .done) .done) (.alt 1 (.alt 0 (.alt 3 (.alt 4 (.alt 6 .done .done) .done) .done) (.alt 3 (.alt 0 (.alt 4 (.alt 6 .done .done) .done) .done) .done)) .done)) .done))) .done))) (by kernel_rfl) (by kernel_rfl) (by kernel_rfl) ?_
     have g8':=hX3
     simp only [lfO] at g8'
     simp only [CA] at h10
     have g8s:∀ x,(S0.set bl x).get b8=some (.cells [.val (.int .i64 ((n-(j'+1):Nat):Int))]):=fun x=>by rw [Zc n8l];exact g8'
     have hc0:=JU n bl bn bb j' hjn hn8 hih l YX left1 hlen hc hl10 hl14 b5 b8 S0 hX1 hX2 hX3
     have hc1:=fun (b11:Nat) (hb:Zx S0 b11)=>JU n bl bn bb j' hjn hn8 hih l YX left1 hlen hc hl10 hl14 b5 b8 ((b11,zeroT)::S0) ⟨by rw [Za (Zt hb hX1.gl)];exact hX1.gl,by rw [Za (Zt hb hX1.gn)];exact hX1.gn,by rw [Za (Zt hb hX1.gb)];exact hX1.gb⟩ (by rw [Za (Zt hb hX2)];exact hX2) (by rw [Za (Zt hb hX3)];exact hX3)
     rw [← hnb] at hc0 hc1
     simp only [YX,Cls.emb] at hc0 hc1
     rw [show ({ any:=true,name:=emptyS }:Cls)=YX from rfl] at hc0 hc1
     cases hO:nb (l.filter fun x=>Z2 (ZW x ((n-(j'+1):Nat):Int)) YX) left1 with
     | none =>
       rw [hO] at hc0 hc1
       refine eI ?_
       repeat' first
        | trivial
        | (refine (hc1 _ hb11).mono ?_
           rintro x S' ⟨rfl,yy,rfl⟩
           refine eI ?_
           refine .inr ⟨_,rfl,rfl,rfl,yy,?_⟩
           rw [Zk (Zt hb11 hX1.gl)]
           exact (Sub.refl _).skip _)
        | (refine hc0.mono ?_
           rintro x S' ⟨rfl,yy,rfl⟩
           refine eI ?_
           exact .inr ⟨_,rfl,rfl,rfl,yy,.refl _⟩)
        | (intro b11 hb11
           have n18:b11≠b8:=Zt hb11 hX3
           try simp only [go_sem,Int.reduceEq,Int.reduceLT,Int.reduceLE,↓reduceIte,Nat.reduceEqDiff,Nat.reduceAdd,Nat.reduceSub,Nat.reduceLT,Nat.reduceLeDiff,Nat.reduceMul,reduceCtorEq,XH,Yi,YA,Yh,ZV,Yb,Yu,h8,h10,g8',g8s,n18])
        | apply And.intro
     | some q =>
       obtain ⟨tq,yy⟩:=q
       rw [hO] at hc0 hc1
       refine eI ?_
       repeat' first
        | trivial
        | (refine (hc1 _ hb11).mono ?_
           rintro x S' ⟨rfl,rfl⟩
           rw [Zk (Zt hb11 hX1.gl)]
           have n18:b11≠b8:=Zt hb11 hX3
           try simp only [go_sem,Int.reduceEq,Int.reduceLT,Int.reduceLE,↓reduceIte,Nat.reduceEqDiff,Nat.reduceAdd,Nat.reduceSub,Nat.reduceLT,Nat.reduceLeDiff,Nat.reduceMul,reduceCtorEq,XH,Yi,YA,Yh,ZV,Yb,Yu,h8,h10,g8',g8s,n18])
        | (refine hc0.mono ?_
           rintro x S' ⟨rfl,rfl⟩
           try simp only [go_sem,Int.reduceEq,Int.reduceLT,Int.reduceLE,↓reduceIte,Nat.reduceEqDiff,Nat.reduceAdd,Nat.reduceSub,Nat.reduceLT,Nat.reduceLeDiff,Nat.reduceMul,reduceCtorEq,XH,Yi,YA,Yh,ZV,Yb,Yu,h8,h10,g8',g8s])
        | (intro b11 hb11
           have n18:b11≠b8:=by first | exact Zt hb11 hX3 | exact Zt hb11 (g8s _)
           try simp only [go_sem,Int.reduceEq,Int.reduceLT,Int.reduceLE,↓reduceIte,Nat.reduceEqDiff,Nat.reduceAdd,Nat.reduceSub,Nat.reduceLT,Nat.reduceLeDiff,Nat.reduceMul,reduceCtorEq,XH,Yi,YA,Yh,ZV,Yb,Yu,h8,h10,g8',g8s,n18])
        | apply And.intro
        | (refine .inl ⟨rfl,?_,tq,yy,b11,rfl,?_,rfl,rfl⟩
           ·repeat first | exact Zg.refl _ _ | refine Zg.put rfl ?_
           ·first | exact hb11 | (rw [XI] at hb11;exact hb11))
    ·rintro fr1 σ1 hks ⟨t,y,b11,hO,hf11,h11,rfl⟩
     rw [hUs]
     have hby:=JV n j' _ _ _ _ (by rw [hnb] at hO;exact hO)
     have hUf:∀ x b,Zx (U left1) b→Zx (U x) b:=fun x b h=>by rw [← hUs left1 x,XI];exact h
     have hsub:∀ (x yy:Int) (S:Store),Has (U x) S→(S.get bl).isSome=true→Has (σ.set bl (lfO yy)) (S.set bl (lfO yy)):=fun x yy S h hs=>by
      have h2:Has (σ.set bl (lfO x)) S:=fun q hq=>h q (by rw [hU];simp [hq])
      have:=h2.setb (b:=bl) (x:=lfO yy) (by rw [WN];exact hnd) hs
      rwa [Zu] at this
     refine AWp.wk (ZD (mu:=[5]) (dr:=[(10,1000,0),(14,11,9)]) (by kernel_rfl) _ (by kernel_rfl) _ _ _ ?_) (Sk.of_turn hks [(11,.val (.pointer (some ⟨b11,0,none⟩)))] ⟨by rw [h11];exact .refl _,trivial⟩) (.refl _)
     refine eT ?_
     refine Zw (mu:=[5]) (dr:=[(10,1000,0),(14,11,9)]) [13,40,41,42,43,44,45,46,47,48,49,50,51,52,53,54,55,56,57] (fun x:Nat×Int×List Cs×AV×Store=>[(40,vi x.1)]) (fun x=>x.2.2.2.2) (fun x=>x.1≤N.length∧x.2.2.1.length=x.1∧0≤x.2.1∧x.2.1≤4000∧YS nb l ((n-(j'+1):Nat):Int) N y=(match YS nb l ((n-(j'+1):Nat):Int) (N.drop x.1) x.2.1 with | none=>none | some (c2,y2)=>some (x.2.2.1++c2,y2))∧LV (U x.2.1) x.2.2.2.2 x.2.2.2.1 7 (cH x.2.2.1)∧x.2.2.2.2.get b11=some (.cells [vi 2,.list .full 0 [],vi ((n-(j'+1):Nat):Int),.list .none 6 (cm [t]),x.2.2.2.1,.list .full 0 []])∧Has (U x.2.1) x.2.2.2.2∧XY (U x.2.1) x.2.2.2.2)
      (fun x=>N.length-x.1) (0,y,[],.list .full 0 [],(b11,.cells [vi 2,.list .full 0 [],vi ((n-(j'+1):Nat):Int),.list .none 6 (cm [t]),.list .full 0 [],.list .full 0 []])::U y) (by kernel_rfl) ⟨by simp,rfl,by simp only;omega,by simp only;omega,by simp only [List.drop_zero];cases YS nb l ((n-(j'+1):Nat):Int) N y<;>simp,LV.nil _ _ _,Zj _ _ _,(Has.refl _).cons _,.cons (hUf _ _ hf11) _⟩ ⟨.refl _,trivial⟩ (.refl _) ?_
     rintro ⟨i,x,cs,v,S⟩ ⟨i1,i2,i3,i4,i5,i6,i7,i8,i9⟩
     simp only at i1 i2 i3 i4 i5 i6 i7 i8 i9
     have hSl:=i9 bl _ (hUS x).gl
     have hSsome:(S.get bl).isSome=true:=by rw [hSl];rfl
     have hSS:BSt n bl bn bb x S:=⟨hSl,i9 _ _ (hUS x).gn,i9 _ _ (hUS x).gb⟩
     have hS5:=i9 _ _ (hU5 x)
     have hS8:=i9 _ _ (hU8 x)
     have hSr:=i9 _ _ (hUr x)
     have n1l:b11≠bl:=fun e=>by rw [e,hSl] at i7;cases i7
     have n1r:b11≠br:=Zt hf11 (hUr _)
     have hset:∀ z,XY (U z) (S.set bl (lfO z)):=fun z=>by rw [← hUs x z];exact i9.setb bl (lfO z)
     have hsetH:∀ z,Has (U z) (S.set bl (lfO z)):=fun z=>by
      intro q hq
      rw [hU] at hq
      simp only [List.mem_cons] at hq
      have hx:∀ q,q∈U x→q∈S:=i8
      rw [hU] at hx
      rcases hq with rfl | rfl | rfl | hq
      ·exact Wx _ (hx _ (by simp)) n8l
      ·exact Wx _ (hx _ (by simp)) nrl
      ·exact Wx _ (hx _ (by simp)) n5l
      ·exact hsub x z S i8 hSsome q hq
     have g11s:∀ z,(S.set bl (lfO z)).get b11=some (.cells [vi 2,.list .full 0 [],vi ((n-(j'+1):Nat):Int),.list .none 6 (cm [t]),v,.list .full 0 []]):=fun z=>by rw [Zc n1l];exact i7
     refine eT ?_
     refine ⟨fun h1=>⟨by omega,h1,fun d hd=>?_⟩,fun h1=>?_⟩
     ·rw [Int.toNat_natCast] at hd
      obtain ⟨s,hs,rfl⟩:=Yx hd
      have hdr:N.drop i=s::N.drop (i+1):=List.drop_eq_getElem_cons (List.getElem?_eq_some_iff.1 hs).1 |>.trans (by rw [(List.getElem?_eq_some_iff.1 hs).2])
      rw [hdr] at i5
      have hcall:=JU n bl bn bb j' hjn hn8 hih l ⟨false,s⟩ x hlen hc i3 i4 b5 b8 S hSS hS5 hS8
      rw [← hnb] at hcall
      simp only [Cls.emb] at hcall
      try simp only [go_sem,Int.reduceEq,Int.reduceLT,Int.reduceLE,↓reduceIte,Nat.reduceEqDiff,Nat.reduceAdd,Nat.reduceSub,Nat.reduceLT,Nat.reduceLeDiff,Nat.reduceMul,reduceCtorEq,XH,i7,CA]
      refine hcall.mono ?_
      intro r S1 hr
      cases hq:nb (l.filter fun x=>Z2 (ZW x ((n-(j'+1):Nat):Int)) ⟨false,s⟩) x with
      | none =>
        rw [hq] at hr
        obtain ⟨rfl,z,rfl⟩:=hr
        have hno:YS nb l ((n-(j'+1):Nat):Int) N y=none:=by rw [i5];simp only [YS,hq]
        refine ea ?_
        intro fr'
        refine ea ?_
        rw [ID hO hno]
        exact .mk ((hsub x z S i8 hSsome).sub (by rw [WN];exact hnd)) ⟨rfl,z,rfl⟩
      | some q =>
        obtain ⟨tq,z⟩:=q
        rw [hq] at hr
        obtain ⟨rfl,rfl⟩:=hr
        have hbz:=JV n j' _ _ _ _ (by rw [hnb] at hq;exact hq)
        obtain ⟨kq,pq,aq,yq,cq,eq⟩:=tq
        simp only [cm,ck] at i7 g11s ⊢
        try simp only [go_sem,Int.reduceEq,Int.reduceLT,Int.reduceLE,↓reduceIte,Nat.reduceEqDiff,Nat.reduceAdd,Nat.reduceSub,Nat.reduceLT,Nat.reduceLeDiff,Nat.reduceMul,reduceCtorEq,XH,g11s,List.length_singleton]
        refine ⟨by decide,fun d hd=>?_⟩
        have hd2:=Option.some.inj hd
        rw [← hd2]
        try simp only [go_sem,Int.reduceEq,Int.reduceLT,Int.reduceLE,↓reduceIte,Nat.reduceEqDiff,Nat.reduceAdd,Nat.reduceSub,Nat.reduceLT,Nat.reduceLeDiff,Nat.reduceMul,reduceCtorEq,XH,g11s]
        have hlv:LV (U z) (S.set bl (lfO z)) v 7 (cH cs):=(i6.set hSl (by intro _ _ h;cases h) _).base (fun b h=>by rw [← hUs x z,XI];exact h)
        refine ⟨rfl,hlv.append2 rfl (by decide) (by rw [cG];simp only [List.length_singleton];omega) rfl (by simp) (hsetH z) (fun v' S' hv' hkin hk hH=>?_)⟩
        have g11':=hk b11 _ (g11s z) (by intro _ _ h;cases h)
        have hS':XY (U z) S':=fun k o h=>hkin k o (by rw [h];rfl) (hset z k o h)
        try simp only [go_sem,Int.reduceEq,Int.reduceLT,Int.reduceLE,↓reduceIte,Nat.reduceEqDiff,Nat.reduceAdd,Nat.reduceSub,Nat.reduceLT,Nat.reduceLeDiff,Nat.reduceMul,reduceCtorEq,XH,g11',hv'.one,hv'.cells]
        rw [show IntKind.i64.wrap ((i:Int)+1)=((i+1:Nat):Int) from Zp (by omega) (by omega)]
        refine .mk (i+1,z,cs++[.mk s (.mk kq pq aq yq cq eq)],v',_) ⟨by simp only;omega,by simp only [List.length_append,i2,List.length_singleton],by simp only;omega,by simp only;omega,?_,?_,Zd g11',hH.set (hUf z b11 hf11) _,fun k o h=>?_⟩ (by simp only;omega) ⟨.refl _,trivial⟩ (by repeat first | exact Zg.turn _ rfl | refine Zg.put rfl ?_ | refine cI _ rfl rfl ?_) (.refl _)
        ·rw [i5];simp only [YS,hq]
         cases YS nb l ((n-(j'+1):Nat):Int) (N.drop (i+1)) z<;>simp
        ·have he:cH (cs++[.mk s (.mk kq pq aq yq cq eq)])=cH cs++[(Cs.mk s (.mk kq pq aq yq cq eq)).emb]:=by simp [dt]
         simp only
         rw [he]
         exact hv'.set g11' (by intro _ _ h;cases h) _
        ·have hne:k≠b11:=fun e=>by rw [e,Zm (hUf z b11 hf11)] at h;cases h
         simp only
         rw [Zc hne];exact hS' k o h
     ·have hdn:N.drop i=[]:=List.drop_of_length_le (by omega)
      rw [hdn] at i5
      simp only [YS,List.append_nil] at i5
      rw [IC hO i5]
      have hcall:=JU n bl bn bb j' hjn hn8 hih l ⟨false,emptyS⟩ x hlen hc i3 i4 b5 b8 S hSS hS5 hS8
      rw [← hnb] at hcall
      simp only [Cls.emb] at hcall
      try simp only [go_sem,Int.reduceEq,Int.reduceLT,Int.reduceLE,↓reduceIte,Nat.reduceEqDiff,Nat.reduceAdd,Nat.reduceSub,Nat.reduceLT,Nat.reduceLeDiff,Nat.reduceMul,reduceCtorEq,XH,CA]
      refine hcall.mono ?_
      intro r S1 hr
      cases hq:nb (l.filter fun x=>Z2 (ZW x ((n-(j'+1):Nat):Int)) ⟨false,emptyS⟩) x with
      | none =>
        rw [hq] at hr
        obtain ⟨rfl,z,rfl⟩:=hr
        refine ea ?_
        exact .mk ((hsub x z S i8 hSsome).sub (by rw [WN];exact hnd)) ⟨rfl,z,rfl⟩
      | some q =>
        obtain ⟨tq,z⟩:=q
        rw [hq] at hr
        obtain ⟨rfl,rfl⟩:=hr
        have h11t:∀ o,((S.set bl (lfO z)).set b11 o).get b11=some o:=fun o=>Zd (g11s z)
        have hrt:∀ o,((S.set bl (lfO z)).set b11 o).get br=some zeroT:=fun o=>by rw [Zc (Ne.symm n1r),Zc nrl];exact hSr
        have hrt2:∀ o o',(((S.set bl (lfO z)).set b11 o).set br o').get br=some o':=fun o o'=>Zd (hrt o)
        try simp only [go_sem,Int.reduceEq,Int.reduceLT,Int.reduceLE,↓reduceIte,Nat.reduceEqDiff,Nat.reduceAdd,Nat.reduceSub,Nat.reduceLT,Nat.reduceLeDiff,Nat.reduceMul,reduceCtorEq,XH,g11s,h11t,hrt,hrt2,i6.one,i6.cells]
        have hf1:Zx σ b11:=by
         have h:=hf11
         rw [hU] at h
         have h:=h.2.2.2
         rw [XI] at h;exact h
        refine .mk ?_ ((((hsub x z S i8 hSsome).set (b:=b11) (by rw [XI];exact hf1) _).set (b:=br) (by rw [XI];exact hbr.2) _).sub (by rw [WN];exact hnd)) ⟨rfl,rfl⟩
        refine Wk.agg rfl (fun i c c' h h'=>?_)
        match i with
        | 0=>simp [ck] at h h';subst h;subst h';exact .refl _
        | 1=>simp [ck] at h h';subst h;subst h';exact .nilA _ _ _
        | 2=>simp [ck] at h h';subst h;subst h';exact .refl _
        | 3=>simp [ck] at h h';subst h;subst h';exact .refl _
        | 4=>simp [ck] at h h';subst h;subst h';exact i6.wk
        | 5=>simp [ck] at h h';subst h;subst h';exact .refl _
        | i+6=>simp at h
    ·rintro pv fr' σ' ⟨rfl,hO,yy,hsub⟩
     have hno:VG nb l ((n-(j'+1):Nat):Int) N left1=none:=by simp only [VG,hO]
     refine ea ?_
     rw [hno]
     rw [hUs] at hsub
     exact .mk (Sub.trans (by rw [hU];exact ((Sub.refl _).skip _).skip _ |>.skip _) hsub) ⟨rfl,yy,rfl⟩
  ·have hj0:j=0:=by omega
   subst hj0
   rw [Qs]
   refine fW ?_
   refine (OY l .none 3 (.inl rfl)).use ?_
   try simp only [go_sem,Int.reduceEq,Int.reduceLT,Int.reduceLE,↓reduceIte,Nat.reduceEqDiff,Nat.reduceAdd,Nat.reduceSub,Nat.reduceLT,Nat.reduceLeDiff,Nat.reduceMul,reduceCtorEq,XH,n8r]
   refine .mk ?_ (((Sub.refl _).skip _).skip _ |>.skip _) ⟨rfl,rfl⟩
   simp only [ck,cm,cH]
   exact .agg rfl (fun i c c' h h'=>by
    match i with
    | 0=>simp at h h';subst h;subst h';exact .refl _
    | 1=>simp at h h';subst h;subst h';exact .refl _
    | 2=>simp at h h';subst h;subst h';exact .refl _
    | 3=>simp at h h';subst h;subst h';exact .nilA _ _ _
    | 4=>simp at h h';subst h;subst h';exact .nilA _ _ _
    | 5=>simp at h h';subst h;subst h';exact .nilA _ _ _
    | i+6=>simp at h)
end
end Go.Vx
