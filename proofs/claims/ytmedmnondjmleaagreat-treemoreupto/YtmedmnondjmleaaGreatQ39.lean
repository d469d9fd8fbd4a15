/- Part Q39 of the proof of treeMoreProved: the walk of the program on abstract values, and the plain law. -/
import Derived.Test.YtmedmnondjmleaaGreatQBt
import Derived.Test.YtmedmnondjmleaaGreatQ31
import Derived.Test.YtmedmnondjmleaaGreatQ32
set_option linter.unusedVariables false
set_option linter.unusedSimpArgs false
section
namespace Go.Vx
open Go Go.Proofs Go.ChangeShapes Go.WideShapes Go.RowKit
set_option maxRecDepth 100000 in
theorem H1 {w:World}{base:Nat}{v:Value}(h:Value.okWide Tryz.prog w .any base 50 v):∃ a b:Int,v=.agg #[.int .i64 a,.int .i64 b]:=by
 simp only [Value.okWide,Tryz.underlying50] at h
 obtain ⟨cs,rfl,hsz,ts,hts,_,hcell⟩:=h
 have e2:Tryz.prog.cellsOf 50=2:=by kernel_rfl
 have ets:Tryz.prog.cellTypes Tryz.prog.depth 50=some [3,3]:=by kernel_rfl
 rw [e2] at hsz
 rw [ets] at hts
 injection hts with hts
 subst hts
 have key:∀ u v,Cell.okWide Tryz.prog w .any base u v→u=3→∃ n,v=.int .i64 n:=by
  intro u v hc hu
  subst hu
  simp only [Cell.okWide,Tryz.underlying3] at hc
  cases v<;>simp_all [Cell.ok,Tryz.underlying3]
 obtain ⟨cs⟩:=cs
 match cs,hsz with
 | [x,y],_ =>
   obtain ⟨u,h1,h2⟩:=hcell 0 x rfl
   obtain ⟨u',h3,h4⟩:=hcell 1 y rfl
   simp at h1 h3
   obtain ⟨a,rfl⟩:=key u x h2 h1.symm
   obtain ⟨b,rfl⟩:=key u' y h4 h3.symm
   exact ⟨a,b,rfl⟩
set_option maxRecDepth 100000 in
theorem IE {H:Type}{enc:TypeId×Value→H}{f:Func}{s:ChangeSpec}{W:World}{base:Nat}{args:Array Value}{ds gs:List (DataW H)}{before:List MemPlace}(hpar:f.params=#[25,35,50])(hsv:s.vars=[])
 (hval:∀ (j:Nat) t v,f.params[j]?=some t→args[j]?=some v→Value.okWide Tryz.prog W .any base t v)
 (hW:DataW.Whole enc Tryz.prog f.params.toList s.vars false W args.toList ds gs before) (hk:Go.Proofs.YtmedmnondjmleaaGreat.Rows.uptoSmall H (ds++gs)=true) :
 ∃ (fl:Flat) (pred:Str) (xr xa a0 a1:Int) (l:List Tm) (d1 d2 d3:DataW H),ds=[d1,d2,d3]∧gs=[]∧Re fl≤1048576 ∧
   Vs (live []) W [.agg fl.emb,.agg (CE pred xr xa l),.agg [vi a0,vi a1]] args.toList:=by
 have hk':Go.Proofs.YtmedmnondjmleaaGreat.Rows.uptoBulkAll (ds++gs)≤1048576:=of_decide_eq_true hk
 obtain ⟨p,q,hA,hV,rfl,hz,hn⟩:=hW
 rw [hsv] at hV
 obtain ⟨rfl,rfl⟩:=trodVars_none hV
 rw [hpar] at hA hval
 obtain ⟨v1,v2,v3,d1,d2,d3,p1,p2,p3,rfl,rfl,rfl,h1,h2,h3⟩:=trodAll_three hA
 simp only [List.append_nil,Go.Proofs.YtmedmnondjmleaaGreat.Rows.uptoBulkAll] at hk'
 obtain ⟨fl,a1,a2⟩:=E1 DJ Tryz.underlying25 (hval 0 _ v1 rfl rfl) h1 (by omega)
 obtain ⟨⟨pred,x,l⟩,c1,_⟩:=E1 BP Tryz.underlying35 (hval 1 _ v2 rfl rfl) h2 (by omega)
 obtain ⟨x0,x1,rfl⟩:=H1 (hval 2 _ v3 rfl rfl)
 refine ⟨fl,pred,x.rule,x.alt,x0,x1,l,d1,d2,d3,rfl,rfl,by omega,rfl,fun i a v ha hv=>?_⟩
 match i with
 | 0=>simp at ha hv;subst ha;subst hv;exact a1
 | 1=>simp at ha hv;subst ha;subst hv;exact c1
 | 2 =>
   simp at ha hv;subst ha;subst hv
   exact V.agg [vi x0,vi x1] [.int .i64 x0,.int .i64 x1] rfl (fun i c v hc hv=>by
    match i with
    | 0=>simp at hc hv;subst hc;subst hv;exact .val _
    | 1=>simp at hc hv;subst hc;subst hv;exact .val _
    | i+2=>simp at hc)
 | i+3=>simp at ha
end Go.Vx
end
section
namespace Go.Vx
def WF (args:List Tm)(r:Row)(j:Nat):Bool:=match args[j]? with
 | some t=>Z2 (r.classes.getD j YX) (Xh t)
 | none=>true
def XJ (args:List Tm)(r:Row):Bool:=(List.range args.length).all (WF args r)
theorem UJ (args:List Tm)(r:Row):XJ args r=true↔∀ j,WF args r j=true:=by
 unfold XJ
 rw [List.all_eq_true]
 constructor
 ·intro h j
  by_cases hj:j<args.length
  ·exact h j (List.mem_range.2 hj)
  ·unfold WF;rw [List.getElem?_eq_none (by omega)]
 ·intro h j _;exact h j
theorem Vl (o c:Cls)(h:c.any=true):Z2 o c=true:=by simp [Z2,h]
theorem UI (o c:Cls)(h:o.any=true):Z2 o c=true:=by simp [Z2,h]
theorem P9 {l:List Row}{r:Row}{a:Int}(hr:r∈l)(hn:(ZW r a).any=false):(ZW r a).name∈Z5 l a.toNat:=by
 unfold Z5 WW
 rw [(Xz _ _).mem_iff,Tv,List.mem_map]
 refine ⟨ZW r a,List.mem_filter.2 ⟨List.mem_map.2 ⟨r,hr,rfl⟩,?_⟩,rfl⟩
 simp only [Bool.not_eq_true',decide_eq_false_iff_not]
 intro e;rw [e] at hn;simp [YX] at hn
theorem Ff {l:List Row}{a:Nat}{s:Str}(h:s∈Z5 l a):∃ r∈l,∃ c,r.classes.getD a YX=c∧c≠YX∧c.name=s:=by
 unfold Z5 WW at h
 rw [(Xz _ _).mem_iff,Tv,List.mem_map] at h
 obtain ⟨c,hc,e⟩:=h
 rw [List.mem_filter] at hc
 obtain ⟨h1,h2⟩:=hc
 obtain ⟨r,hr,e2⟩:=List.mem_map.1 h1
 exact ⟨r,hr,c,e2,by simpa using h2,e⟩
theorem Hg {l:List Row}{a:Int}{s:Str}(hs:s ∉ Z5 l a.toNat)(he:emptyS ∉ Z5 l a.toNat){r:Row}(hr:r∈l):Z2 (ZW r a) ⟨false,emptyS⟩=Z2 (ZW r a) ⟨false,s⟩:=by
 cases h:(ZW r a).any with
 | true=>rw [UI _ _ h,UI _ _ h]
 | false =>
   have hm:=P9 hr h
   have h1:(ZW r a).name≠s:=fun e=>hs (e ▸ hm)
   have h2:(ZW r a).name≠emptyS:=fun e=>he (e ▸ hm)
   obtain ⟨x,hx⟩:∃ x,x=ZW r a:=⟨_,rfl⟩
   rw [← hx] at h h1 h2 ⊢
   obtain ⟨x1,x2⟩:=x
   simp only at h h1 h2
   simp [Z2,h,h1,h2]
def JZ (l:List Row):Prop:=∀ r∈l,∀ c∈r.classes,c.any=false→c.name≠emptyS
def C7 (l:List Row):Prop:=∀ r∈l,∀ c∈r.classes,c.any=true→c=YX
theorem S9 {l:List Row}(h:JZ l)(h2:C7 l)(a:Nat):emptyS ∉ Z5 l a:=by
 intro hm
 obtain ⟨r,hr,c,hc,hn,he⟩:=Ff hm
 rw [List.getD_eq_getElem?_getD] at hc
 cases hx:r.classes[a]? with
 | none=>rw [hx] at hc;exact hn hc.symm
 | some x =>
   rw [hx] at hc
   have hxm:=List.mem_of_getElem? hx
   simp only [Option.getD_some] at hc
   subst hc
   cases ha:x.any with
   | true=>exact hn (h2 r hr x hxm ha)
   | false=>exact h r hr x hxm ha he
theorem UK (args:List Tm)(l:List Row)(a:Nat)(t:Tm)(ha:args[a]?=some t)(c:Cls)(hc:∀ r∈l,Z2 (ZW r a) c=Z2 (ZW r a) (Xh t)) :
 (l.filter fun x=>Z2 (ZW x a) c).filter (XJ args)=l.filter (XJ args):=by
 rw [List.filter_filter]
 refine List.filter_congr (fun r hr=>?_)
 cases h:XJ args r with
 | false=>simp
 | true =>
   rw [UJ] at h
   have:=h a
   unfold WF at this
   rw [ha] at this
   simp only [Bool.true_and]
   rw [hc r hr]
   simpa [ZW] using this
theorem Ow {B:List Row→Int→Option (Tr×Int)}{l:List Row}{a:Int}{s:Str}{args:List Tm}{d:List Pick}:∀ {ns:List Str} {n:Int} {cs:List Cs} {m:Int},YS B l a ns n=some (cs,m) →
 (s∈ns→∃ T n1 n2,B (l.filter fun x=>Z2 (ZW x a) ⟨false,s⟩) n1=some (T,n2)∧WY s args d cs=WC T args)∧(s ∉ ns→WY s args d cs=d)
 | [],n,cs,m,h=>by
   simp only [YS,Option.some.injEq,Prod.mk.injEq] at h
   obtain ⟨rfl,_⟩:=h
   exact ⟨by simp,fun _=>by simp only [WY]⟩
 | u::r,n,cs,m,h=>by
   simp only [YS] at h
   cases hB:B (l.filter fun x=>Z2 (ZW x a) ⟨false,u⟩) n with
   | none=>rw [hB] at h;cases h
   | some p =>
     obtain ⟨T,n1⟩:=p
     rw [hB] at h
     simp only at h
     cases hc:YS B l a r n1 with
     | none=>rw [hc] at h;cases h
     | some p2 =>
       obtain ⟨cs',n2⟩:=p2
       rw [hc] at h
       simp only [Option.some.injEq,Prod.mk.injEq] at h
       obtain ⟨rfl,_⟩:=h
       obtain ⟨i1,i2⟩:=Ow (s:=s) (args:=args) (d:=d) hc
       by_cases hu:u=s
       ·subst hu
        exact ⟨fun _=>⟨T,n,n1,hB,by simp only [WY,Cs.name,if_true,aO]⟩,fun hn=>absurd List.mem_cons_self hn⟩
       ·have e:WY s args d (.mk u T::cs')=WY s args d cs':=by simp only [WY,Cs.name];exact if_neg hu
        rw [e]
        exact ⟨fun hm=>i1 ((List.mem_cons.1 hm).resolve_left (fun e=>hu e.symm)),fun hn=>i2 (fun h=>hn (List.mem_cons_of_mem _ h))⟩
theorem R9 (args:List Tm):∀ (k:Nat) (l:List Row) (left:Int) (t:Tr) (m:Int),k≤args.length→Xk args.length k l left=some (t,m)→JZ l→C7 l →
 (∀ r∈l,∀ j,j<args.length-k→WF args r j=true)→WC t args=(l.filter (XJ args)).map Row.pick
 | 0,l,left,t,m,hk,h,hn,hy,hf=>by
   simp only [Xk,Option.some.injEq,Prod.mk.injEq] at h
   obtain ⟨rfl,_⟩:=h
   simp only [WC]
   rw [if_neg (by decide),List.filter_eq_self.2]
   intro r hr
   rw [UJ]
   intro j
   by_cases hj:j<args.length
   ·exact hf r hr j (by omega)
   ·unfold WF;rw [List.getElem?_eq_none (by omega)]
 | k+1,l,left,t,m,hk,h,hn,hy,hf=>by
   simp only [Xk] at h
   obtain ⟨a,ha⟩:∃ a,a=args.length-(k+1):=⟨_,rfl⟩
   rw [← ha] at h hf
   have hak:args.length-k=a+1:=by omega
   obtain ⟨ta,hta⟩:∃ ta,args[a]?=some ta:=⟨_,List.getElem?_eq_getElem (by omega)⟩
   have sub:∀ (P:Row→Bool),(∀ r∈l,P r=true→WF args r a=true)→∀ (left':Int) (t':Tr) (m':Int),Xk args.length k (l.filter P) left'=some (t',m') →
    WC t' args=((l.filter P).filter (XJ args)).map Row.pick:=fun P hP left' t' m' h' =>
    R9 args k (l.filter P) left' t' m' (by omega) h' (fun r hr=>hn r (List.mem_filter.1 hr).1) (fun r hr=>hy r (List.mem_filter.1 hr).1) (fun r hr j hj=>by
     obtain ⟨h1,h2⟩:=List.mem_filter.1 hr
     rw [hak] at hj
     by_cases hja:j=a
     ·subst hja;exact hP r h1 h2
     ·exact hf r h1 j (by omega))
   split at h
   ·rename_i hnm
    refine R9 args k l left t m (by omega) h hn hy (fun r hr j hj=>?_)
    rw [hak] at hj
    by_cases hja:j=a
    ·subst hja
     unfold WF;rw [hta]
     refine UI _ _ ?_
     cases hx:(r.classes.getD j YX).any with
     | true=>rfl
     | false =>
       have:=P9 (a:=(j:Int)) hr (by simpa [ZW] using hx)
       rw [Int.toNat_natCast,hnm] at this
       simp at this
    ·exact hf r hr j (by omega)
   ·have hemp:=S9 hn hy a
    unfold VG at h
    obtain ⟨B,hB⟩:∃ B,B=(fun (l:List Row) (left:Int)=>if left-1<0 then none else Xk args.length k l (left-1)):=⟨_,rfl⟩
    rw [← hB] at h
    have Bsub:∀ (P:Row→Bool),(∀ r∈l,P r=true→WF args r a=true)→∀ (left':Int) (t':Tr) (m':Int),B (l.filter P) left'=some (t',m') →
     WC t' args=((l.filter P).filter (XJ args)).map Row.pick:=fun P hP left' t' m' h'=>by
     rw [hB] at h'
     simp only at h'
     split at h'
     ·cases h'
     ·exact sub P hP _ _ _ h'
    cases h1:B (l.filter fun x=>Z2 (ZW x a) YX) left with
    | none=>rw [h1] at h;cases h
    | some p1 =>
      obtain ⟨tA,n1⟩:=p1
      rw [h1] at h
      simp only at h
      cases h2:YS B l a (Z5 l a) n1 with
      | none=>rw [h2] at h;cases h
      | some p2 =>
        obtain ⟨cs,n2⟩:=p2
        rw [h2] at h
        simp only at h
        cases h3:B (l.filter fun x=>Z2 (ZW x a) ⟨false,emptyS⟩) n2 with
        | none=>rw [h3] at h;cases h
        | some p3 =>
          obtain ⟨tE,n3⟩:=p3
          rw [h3] at h
          simp only [Option.some.injEq,Prod.mk.injEq] at h
          obtain ⟨rfl,_⟩:=h
          have hat:∀ r:Row,WF args r a=Z2 (ZW r a) (Xh ta):=fun r=>by unfold WF ZW;rw [hta,Int.toNat_natCast]
          simp only [WC,if_true,Int.toNat_natCast,hta,Jv]
          cases hany:(Xh ta).any with
          | true =>
            rw [if_pos rfl,Bsub _ (fun r _ _=>by rw [hat,Vl _ _ hany]) _ _ _ h1,UK args l a ta hta YX (fun r _=>by rw [Vl _ _ rfl,Vl _ _ hany])]
          | false =>
            rw [if_neg (by decide)]
            have hcl:Xh ta=⟨false,(Xh ta).name⟩:=by rw [← hany]
            obtain ⟨s1,s2⟩:=Ow (s:=(Xh ta).name) (args:=args) (d:=WC tE args) h2
            by_cases hs:(Xh ta).name∈Z5 l a
            ·obtain ⟨T,m1,m2,hT,e⟩:=s1 hs
             rw [e,Bsub _ (fun r _ hp=>by rw [hat,hcl];exact hp) _ _ _ hT,UK args l a ta hta _ (fun r _=>by rw [← hcl])]
            ·have hel:∀ r∈l,Z2 (ZW r (a:Int)) ⟨false,emptyS⟩=Z2 (ZW r (a:Int)) (Xh ta):=fun r hr=>by
              rw [Hg (s:=(Xh ta).name) (by rw [Int.toNat_natCast];exact hs) (by rw [Int.toNat_natCast];exact hemp) hr,← hcl]
             rw [s2 hs,Bsub _ (fun r hr hp=>by rw [hat,← hel r hr];exact hp) _ _ _ h3,UK args l a ta hta _ hel]
end Go.Vx
end
section
namespace Go.Vx
open Go.Proofs
theorem OO {l:List Tr}{m:Int}(ih:∀ x∈l,∀ m:Int,(trN x:Int)≤m→Ww x m=trN x):∀ n:Int,n+WQ l≤m→Y7 l m n=n+WQ l:=by
 induction l with
 | nil=>intro n h;simp only [Y7,WQ];omega
 | cons a r ihr =>
   intro n h
   simp only [WQ] at h
   have ha:=ih a List.mem_cons_self (m-n) (by omega)
   simp only [Y7,WQ]
   rw [if_neg (by omega),ha,ihr (fun x hx=>ih x (List.mem_cons_of_mem _ hx)) _ (by omega)]
   omega
theorem N5 (t:Tr):∀ m:Int,(trN t:Int)≤m→Ww t m=trN t:=by
 refine VT (M:=fun t=>∀ m:Int,(trN t:Int)≤m→Ww t m=trN t) (fun t ih m h=>?_) t
 rw [OD] at h ⊢
 rw [R6,OO (fun x hx=>ih x (XQ hx)) 1 (by omega)]
 omega
theorem Rk {B:List Row→Int→Option (Tr×Int)}{l:List Row}{a:Int}(hB:∀ l n t m,0≤n→B l n=some (t,m)→0≤m∧n-m=trN t):∀ {ns:List Str} {n:Int} {cs:List Cs} {m:Int},0≤n→YS B l a ns n=some (cs,m)→0≤m∧n-m=csN cs
 | [],n,cs,m,hn,h=>by
   simp only [YS,Option.some.injEq,Prod.mk.injEq] at h
   obtain ⟨rfl,rfl⟩:=h
   simp only [csN];omega
 | u::r,n,cs,m,hn,h=>by
   simp only [YS] at h
   cases hb:B (l.filter fun x=>Z2 (ZW x a) ⟨false,u⟩) n with
   | none=>rw [hb] at h;cases h
   | some p =>
     obtain ⟨T,n1⟩:=p
     rw [hb] at h
     simp only at h
     cases hc:YS B l a r n1 with
     | none=>rw [hc] at h;cases h
     | some p2 =>
       obtain ⟨cs',n2⟩:=p2
       rw [hc] at h
       simp only [Option.some.injEq,Prod.mk.injEq] at h
       obtain ⟨rfl,rfl⟩:=h
       obtain ⟨b1,b2⟩:=hB _ _ _ _ hn hb
       obtain ⟨c1,c2⟩:=Rk hB b1 hc
       simp only [csN,Ax];omega
theorem V5 (n:Nat):∀ (k:Nat) (l:List Row) (left:Int) (t:Tr) (m:Int),0≤left→Xk n k l left=some (t,m)→0≤m∧left-m=trN t-1
 | 0,l,left,t,m,hl,h=>by
   simp only [Xk,Option.some.injEq,Prod.mk.injEq] at h
   obtain ⟨rfl,rfl⟩:=h
   simp only [trN,WQ,csN];omega
 | k+1,l,left,t,m,hl,h=>by
   simp only [Xk] at h
   split at h
   ·exact V5 n k l left t m hl h
   ·unfold VG at h
    obtain ⟨B,hB⟩:∃ B,B=(fun (l:List Row) (left:Int)=>if left-1<0 then none else Xk n k l (left-1)):=⟨_,rfl⟩
    rw [← hB] at h
    have hb:∀ l n t m,0≤n→B l n=some (t,m)→0≤m∧n-m=trN t:=fun l n' t m hn h'=>by
     rw [hB] at h'
     simp only at h'
     split at h'
     ·cases h'
     ·have:=V5 n k l (n'-1) t m (by omega) h'
      omega
    generalize (((n-(k+1):Nat):Int))=a at h
    cases h1:B (l.filter fun x=>Z2 (ZW x a) YX) left with
    | none=>rw [h1] at h;cases h
    | some p1 =>
      obtain ⟨tA,n1⟩:=p1
      rw [h1] at h
      simp only at h
      cases h2:YS B l a (Z5 l (n-(k+1))) n1 with
      | none=>rw [h2] at h;cases h
      | some p2 =>
        obtain ⟨cs,n2⟩:=p2
        rw [h2] at h
        simp only at h
        cases h3:B (l.filter fun x=>Z2 (ZW x a) ⟨false,emptyS⟩) n2 with
        | none=>rw [h3] at h;cases h
        | some p3 =>
          obtain ⟨tE,n3⟩:=p3
          rw [h3] at h
          simp only [Option.some.injEq,Prod.mk.injEq] at h
          obtain ⟨rfl,rfl⟩:=h
          obtain ⟨a1,a2⟩:=hb _ _ _ _ hl h1
          obtain ⟨b1,b2⟩:=Rk hb a1 h2
          obtain ⟨c1,c2⟩:=hb _ _ _ _ b1 h3
          simp only [trN,WQ];omega
theorem Qb (q:ML)(x y:Int)(b:Bool):XA (V1 q x b) y=if y=x then b else XA q y:=by
 unfold XA V1
 simp only [Mk]
 by_cases h:y=x<;>simp [h]
theorem Ap {l:List Pick}(h:l.Pairwise (fun x y=>VO x y<0)):Tt VO l=true:=by
 rw [W2]
 intro i a b ha hb
 have h1:=List.getElem?_eq_some_iff.1 ha
 have h2:=List.getElem?_eq_some_iff.1 hb
 obtain ⟨h1,e1⟩:=h1
 obtain ⟨h2,e2⟩:=h2
 have:=(List.pairwise_iff_getElem.1 h) i (i+1) h1 h2 (by omega)
 rw [e1,e2] at this;exact this
theorem O3 (l:List Row)(a:Nat):(Z5 l a).Pairwise (fun x y=>UO x y<0):=by
 unfold Z5 WW
 have h1:=WK VX (dd (((Wa l a).filter fun c=>!decide (c=YX)).map Cls.name))
 have h2:(P1 (ltOf UO) (dd (((Wa l a).filter fun c=>!decide (c=YX)).map Cls.name))).Nodup:=(Xz _ _).nodup_iff.2 (MQ _)
 refine (h1.and h2).imp (fun {x y} h=>?_)
 cases hx:ltOf UO x y with
 | true=>simpa [ltOf] using hx
 | false=>exact absurd (TY x y hx h.1) h.2
theorem Rj {B:List Row→Int→Option (Tr×Int)}{l:List Row}{a:Int}:∀ {ns:List Str} {n:Int} {cs:List Cs} {m:Int},YS B l a ns n=some (cs,m) →
 cs.map Cs.name=ns∧∀ c∈cs,∃ s n1 n2,B (l.filter fun x=>Z2 (ZW x a) ⟨false,s⟩) n1=some (c.tree,n2)
 | [],n,cs,m,h=>by
   simp only [YS,Option.some.injEq,Prod.mk.injEq] at h
   obtain ⟨rfl,_⟩:=h
   exact ⟨rfl,by simp⟩
 | u::r,n,cs,m,h=>by
   simp only [YS] at h
   cases hb:B (l.filter fun x=>Z2 (ZW x a) ⟨false,u⟩) n with
   | none=>rw [hb] at h;cases h
   | some p =>
     obtain ⟨T,n1⟩:=p
     rw [hb] at h
     simp only at h
     cases hc:YS B l a r n1 with
     | none=>rw [hc] at h;cases h
     | some p2 =>
       obtain ⟨cs',n2⟩:=p2
       rw [hc] at h
       simp only [Option.some.injEq,Prod.mk.injEq] at h
       obtain ⟨rfl,_⟩:=h
       obtain ⟨i1,i2⟩:=Rj hc
       refine ⟨by simp only [List.map_cons,Cs.name,i1],fun c hcm=>?_⟩
       rcases List.mem_cons.1 hcm with e | hcm
       ·subst e;exact ⟨u,n,n1,hb⟩
       ·exact i2 c hcm
theorem MI {n:Int}{from':Int}:∀ {l:List Tr} {q:ML},(∀ x∈l,∀ q:ML,(∀ y,from'≤y→XA q y=false)→(frm n x q).1=true∧∀ y,XA (frm n x q).2 y=XA q y) →
 (∀ y,from'≤y→XA q y=false)→(Yk n l (true,q)).1=true∧∀ y,XA (Yk n l (true,q)).2 y=XA q y
 | [],q,_,_=>by simp only [Yk];exact ⟨trivial,fun _=>trivial⟩
 | t::r,q,h,hq=>by
   obtain ⟨h1,h2⟩:=h t List.mem_cons_self q hq
   have e:frm n t q=(true,(frm n t q).2):=Prod.ext h1 rfl
   simp only [Yk,if_true]
   rw [e]
   obtain ⟨i1,i2⟩:=MI (q:=(frm n t q).2) (fun x hx=>h x (List.mem_cons_of_mem _ hx)) (fun y hy=>by rw [h2];exact hq y hy)
   exact ⟨i1,fun y=>by rw [i2,h2]⟩
theorem QN (n:Nat):∀ (k:Nat) (l:List Row) (left:Int) (t:Tr) (m:Int),k≤n→Xk n k l left=some (t,m)→JZ l→C7 l→(l.map Row.pick).Pairwise (fun x y=>VO x y<0) →
 ∀ q:ML,(∀ y:Int,((n-k:Nat):Int)≤y→XA q y=false)→(frm (n:Nat) t q).1=true∧∀ y,XA (frm (n:Nat) t q).2 y=XA q y
 | 0,l,left,t,m,hk,h,hn,hy,hp,q,hq=>by
   simp only [Xk,Option.some.injEq,Prod.mk.injEq] at h
   obtain ⟨rfl,_⟩:=h
   simp only [frm,if_true,Ya,List.append_nil,List.map_nil,List.length_nil,decide_true,Bool.true_and]
   exact ⟨Ap hp,fun _=>trivial⟩
 | k+1,l,left,t,m,hk,h,hn,hy,hp,q,hq=>by
   simp only [Xk] at h
   obtain ⟨a,ha⟩:∃ a,a=n-(k+1):=⟨_,rfl⟩
   rw [← ha] at h hq
   have hak:n-k=a+1:=by omega
   split at h
   ·exact QN n k l left t m (by omega) h hn hy hp q (fun y hy'=>hq y (by omega))
   ·rename_i hnm
    have hemp:=S9 hn hy a
    unfold VG at h
    obtain ⟨B,hB⟩:∃ B,B=(fun (l:List Row) (left:Int)=>if left-1<0 then none else Xk n k l (left-1)):=⟨_,rfl⟩
    rw [← hB] at h
    have Bok:∀ (P:Row→Bool) (left':Int) (t':Tr) (m':Int),B (l.filter P) left'=some (t',m') →
     ∀ q:ML,(∀ y:Int,((a+1:Nat):Int)≤y→XA q y=false)→(frm (n:Nat) t' q).1=true∧∀ y,XA (frm (n:Nat) t' q).2 y=XA q y:=fun P left' t' m' h' q hq=>by
     rw [hB] at h'
     simp only at h'
     split at h'
     ·cases h'
     ·exact QN n k (l.filter P) _ t' m' (by omega) h' (fun r hr=>hn r (List.mem_filter.1 hr).1) (fun r hr=>hy r (List.mem_filter.1 hr).1) (hp.sublist ((List.filter_sublist).map _)) q (by rw [hak];exact hq)
    cases h1:B (l.filter fun x=>Z2 (ZW x a) YX) left with
    | none=>rw [h1] at h;cases h
    | some p1 =>
      obtain ⟨tA,n1⟩:=p1
      rw [h1] at h
      simp only at h
      cases h2:YS B l a (Z5 l a) n1 with
      | none=>rw [h2] at h;cases h
      | some p2 =>
        obtain ⟨cs,n2⟩:=p2
        rw [h2] at h
        simp only at h
        cases h3:B (l.filter fun x=>Z2 (ZW x a) ⟨false,emptyS⟩) n2 with
        | none=>rw [h3] at h;cases h
        | some p3 =>
          obtain ⟨tE,n3⟩:=p3
          rw [h3] at h
          simp only [Option.some.injEq,Prod.mk.injEq] at h
          obtain ⟨rfl,_⟩:=h
          obtain ⟨c1,c2⟩:=Rj h2
          have hs0:=hq a (Int.le_refl _)
          have hlen:cs.length=(Z5 l a).length:=by rw [← c1,List.length_map]
          have hne:cs.length≠0:=by rw [hlen];exact fun h=>hnm (List.length_eq_zero_iff.1 h)
          have hbadN:W5 (n:Nat) [] a [tA] cs [tE] q=false:=by
           unfold W5
           rw [hs0,decide_eq_false (by omega:¬ (a:Int)<0),decide_eq_false (by omega:¬ ((n:Nat):Int)≤(a:Int)),decide_eq_false (by omega:¬ cs.length=0)]
           simp
          have hbadC:SM cs=false:=by
           cases cs with
           | nil=>exact absurd rfl hne
           | cons c0 r =>
             simp only [SM,Bool.or_eq_false_iff,decide_eq_false_iff_not,Bool.not_eq_false']
             refine ⟨fun e=>hemp (by rw [← c1,List.map_cons,e];exact List.mem_cons_self),?_⟩
             rw [W2]
             intro i x y hx hy'
             have hs:=O3 l a
             rw [← c1] at hs
             obtain ⟨g1,e1⟩:=List.getElem?_eq_some_iff.1 hx
             obtain ⟨g2,e2⟩:=List.getElem?_eq_some_iff.1 hy'
             have:=(List.pairwise_iff_getElem.1 hs) i (i+1) (by simpa using g1) (by simpa using g2) (by omega)
             simp only [List.getElem_map] at this
             rw [e1,e2] at this
             exact this
          rw [Cp,hbadN,hbadC]
          simp only [Bool.or_self,Bool.false_eq_true,if_false]
          have hkids:∀ x∈[tA]++[tE]++cs.map Cs.tree,∀ q:ML,(∀ y:Int,((a+1:Nat):Int)≤y→XA q y=false)→(frm (n:Nat) x q).1=true∧∀ y,XA (frm (n:Nat) x q).2 y=XA q y:=by
           intro x hx
           simp only [List.mem_append,List.mem_singleton,List.mem_map] at hx
           rcases hx with (rfl | rfl) | ⟨c,hc,rfl⟩
           ·exact Bok _ _ _ _ h1
           ·exact Bok _ _ _ _ h3
           ·obtain ⟨s,m1,m2,hB'⟩:=c2 c hc
            exact Bok _ _ _ _ hB'
          obtain ⟨f1,f2⟩:=MI (q:=V1 q a true) hkids (fun y hy'=>by rw [Qb,if_neg (by omega)];exact hq y (by omega))
          refine ⟨f1,fun y=>?_⟩
          rw [Qb]
          by_cases hya:y=a
          ·rw [if_pos hya,hya,hs0]
          ·rw [if_neg hya,f2,Qb,if_neg hya]
end Go.Vx
end
section
namespace Go.Vx
open Go.Proofs
theorem Ez {f:Flat}(h:Vv f=0){i:Nat}{u:FGroup}{c:FClause}{t:Tm}(hu:f.groups[i]?=some u)(hc:c∈u.alts)(ht:t∈c.args):WL t=0:=by
 unfold Vv at h
 split at h
 ·rename_i hok
  unfold Sb at hok
  simp only [Bool.and_eq_true,List.all_eq_true] at hok
  have hi:=(List.getElem?_eq_some_iff.1 hu).1
  have hg:=hok.2 i (List.mem_range.2 hi)
  unfold W3 at hg
  rw [hu] at hg
  simp only [Bool.and_eq_true,List.all_eq_true] at hg
  have hcl:=hg.1.2 c hc
  unfold Xw at hcl
  rw [hu] at hcl
  simp only [Bool.and_eq_true] at hcl
  have h2:=hcl.2
  split at h2
  ·simp only [Bool.and_eq_true,List.all_eq_true] at h2
   have h3:=h2.2 t ht
   unfold XO at h3
   simp only [Bool.and_eq_true,decide_eq_true_eq] at h3
   exact h3.1.1.1
  ·cases h2
 ·exact absurd h (by decide)
theorem L9:ZO emptyS=false:=by kernel_rfl
theorem TO {t:Tm}(h:WL t=0):((Z4 t).any=false→(Z4 t).name≠emptyS)∧((Z4 t).any=true→Z4 t=YX):=by
 obtain ⟨k,n,s,l⟩:=t
 unfold WL at h
 split at h
 ·rename_i h1;exact absurd h h1
 ·split at h
  ·rename_i h2
   simp only [Qi,Bool.and_eq_true] at h2
   have h3:=h2.1
   unfold TU at h3
   simp only [Z4]
   by_cases hk:k=1
   ·rw [if_pos hk] at h3 ⊢
    simp only [Bool.and_eq_true] at h3
    refine ⟨fun _ e=>?_,fun h=>Bool.noConfusion h⟩
    simp only at e
    rw [e,L9] at h3
    simp at h3
   ·rw [if_neg hk]
    exact ⟨fun h=>Bool.noConfusion h,fun _=>rfl⟩
  ·exact absurd h (by decide)
theorem Qg (f:Flat)(P:Cls→Prop)(l:List Pick)(hl:∀ x∈l,∀ c,Y0 f x=some c→∀ t∈c.args,P (Z4 t)):∀ (out:List Row) (n:Nat) (q:List Row×Nat),ZJ f l out n=some q→(∀ r∈out,∀ c∈r.classes,P c)→∀ r∈q.1,∀ c∈r.classes,P c:=by
 induction l with
 | nil=>intro out n q h ho;simp only [ZJ,Option.some.injEq] at h;subst h;exact ho
 | cons x r ih =>
   intro out n q h ho
   simp only [ZJ] at h
   cases hc:Y0 f x with
   | none=>rw [hc] at h;cases h
   | some c =>
     rw [hc] at h
     simp only at h
     split at h
     ·cases h
     ·refine ih (fun y hy=>hl y (List.mem_cons_of_mem _ hy)) _ _ _ h (fun w hw c' hc'=>?_)
      rcases List.mem_append.1 hw with hw | hw
      ·exact ho w hw c' hc'
      ·simp only [List.mem_singleton] at hw
       subst hw
       obtain ⟨t,ht,e⟩:=List.mem_map.1 hc'
       rw [← e];exact hl x List.mem_cons_self c hc t ht
theorem LS (f:Flat)(pred:Str)(h:(ZM f pred).2.2=0):JZ (ZM f pred).1∧C7 (ZM f pred).1:=by
 have hchk:=(XB f pred h).1
 have key:∀ P:Cls→Prop,(∀ t,WL t=0→P (Z4 t))→∀ r∈(ZM f pred).1,∀ c∈r.classes,P c:=by
  intro P hP
  unfold ZM at h ⊢
  rw [if_neg (by omega)] at h ⊢
  cases hl:ZJ f (Z6 f pred) [] 0 with
  | none=>simp
  | some q =>
    rw [hl] at h
    simp only at h ⊢
    split
    ·simp
    ·refine Qg f P (Z6 f pred) (fun x hx c hc t ht=>?_) [] 0 q hl (by simp)
     obtain ⟨i,j,n,u,c',_,_,_,h4,h5,h6⟩:=QI hx
     rw [hc] at h6
     injection h6 with h6;subst h6
     exact hP t (Ez hchk h4 (List.mem_of_getElem? h5) ht)
 exact ⟨fun r hr c hc=>key (fun c=>c.any=false→c.name≠emptyS) (fun t ht=>(TO ht).1) r hr c hc,fun r hr c hc=>key (fun c=>c.any=true→c=YX) (fun t ht=>(TO ht).2) r hr c hc⟩
theorem GG (y:Int):XA ([],0) y=false:=rfl
theorem Q7 (f:Flat)(pred:Str)(h:(ZP f pred).2=0):(ZM f pred).2.2=0∧YW (ZP f pred).1 ((ZM f pred).2.1:Nat)=true ∧
 ∀ args:List Tm,args.length=(ZM f pred).2.1→WC (ZP f pred).1 args=((ZM f pred).1.filter (XJ args)).map Row.pick:=by
 unfold ZP at h ⊢
 by_cases h0:(ZM f pred).2.2≠0
 ·rw [if_pos h0] at h;exact absurd h h0
 ·rw [if_neg h0] at h ⊢
  have h0':(ZM f pred).2.2=0:=by omega
  obtain ⟨hn,hy⟩:=LS f pred h0'
  have hpk:=(XB f pred h0').2.2.2.2
  have hsort:((ZM f pred).1.map Row.pick).Pairwise (fun x y=>VO x y<0):=by rw [hpk];exact T0 f pred
  refine ⟨h0',?_⟩
  cases hb:UQ (ZM f pred).2.1 (ZM f pred).2.1 (ZM f pred).1 4000 with
  | none=>rw [hb] at h;exact absurd h (by decide)
  | some p =>
    obtain ⟨t,m⟩:=p
    simp only
    unfold UQ at hb
    rw [if_neg (by decide)] at hb
    obtain ⟨c1,c2⟩:=V5 _ _ _ _ _ _ (by decide) hb
    refine ⟨?_,fun args ha=>?_⟩
    ·unfold YW
     have hfr:=QN (ZM f pred).2.1 (ZM f pred).2.1 _ _ _ _ (Nat.le_refl _) hb hn hy hsort ([],0) (fun y _=>GG y)
     have hsz:Ww t 4000≤4000:=by rw [N5 t 4000 (by omega)];omega
     rw [decide_eq_true hsz,hfr.1];rfl
    ·rw [← ha] at hb
     exact R9 args args.length (ZM f pred).1 _ t m (Nat.le_refl _) hb hn hy (fun r _ j hj=>by omega)
theorem U3 (f:Flat)(pred:Str):trN (ZP f pred).1≤4000:=by
 unfold ZP
 split
 ·show trN (.mk 0 [] 0 [] [] [])≤4000;decide
 ·split
  ·show trN (.mk 0 [] 0 [] [] [])≤4000;decide
  ·rename_i t m hb
   unfold UQ at hb
   rw [if_neg (by decide)] at hb
   obtain ⟨c1,c2⟩:=V5 _ _ _ _ _ _ (by decide) hb
   simp only;omega
end Go.Vx
end
section
namespace Go.Vx
open Go.Proofs
theorem MK (args:List Tm)(a:Nat)(v:Tm)(hv:(Xh v).any=true)(r:Row)(h:XJ args r=true):XJ (args.set a v) r=true:=by
 rw [UJ] at h ⊢
 intro j
 have hj:=h j
 unfold WF at hj ⊢
 rw [List.getElem?_set]
 by_cases hja:a=j
 ·rw [if_pos hja]
  split
  ·rename_i t ht
   split at ht
   ·injection ht with ht;subst ht;exact Vl _ _ hv
   ·cases ht
  ·rfl
 ·rw [if_neg hja];exact hj
theorem Kw (args:List Tm)(a:Nat)(v:Tm)(hv:(Xh v).any=true)(l:List Row):∀ x∈(l.filter (XJ args)).map Row.pick,x∈(l.filter (XJ (args.set a v))).map Row.pick:=by
 intro x hx
 obtain ⟨r,hr,e⟩:=List.mem_map.1 hx
 obtain ⟨h1,h2⟩:=List.mem_filter.1 hr
 exact List.mem_map.2 ⟨r,List.mem_filter.2 ⟨h1,MK args a v hv r h2⟩,e⟩
def Z3 (f:Flat)(b:Nat):Flat:=⟨f.groups,f.rules.set b (-1)⟩
theorem N2 (g:List FGroup)(r r':List Int):YC ⟨g,r⟩=YC ⟨g,r'⟩:=rfl
theorem T2 {g:List FGroup}{r r':List Int}{i:Nat}{lo:List Ty}{b:Int}:∀ {l:List Zf},(∀ x∈l,∀ A sn,Z7 ⟨g,r⟩ i lo b x A sn=Z7 ⟨g,r'⟩ i lo b x A sn)→∀ A sn,ZX ⟨g,r⟩ i lo b l A sn=ZX ⟨g,r'⟩ i lo b l A sn
 | [],_,A,sn=>by simp only [ZX]
 | x::q,h,A,sn=>by
   simp only [ZX]
   rw [h x List.mem_cons_self]
   cases Z7 ⟨g,r'⟩ i lo b x A sn with
   | none=>rfl
   | some s=>exact T2 (fun y hy=>h y (List.mem_cons_of_mem _ hy)) A s
theorem MD (g:List FGroup)(r r':List Int)(i:Nat)(lo:List Ty)(b:Int)(x:Zf):∀ A sn,Z7 ⟨g,r⟩ i lo b x A sn=Z7 ⟨g,r'⟩ i lo b x A sn:=by
 refine dp (M:=fun x=>∀ A sn,Z7 ⟨g,r⟩ i lo b x A sn=Z7 ⟨g,r'⟩ i lo b x A sn) (fun k s a t l n gr e ih A sn=>?_) x
 simp only [Z7]
 rw [N2 g r r']
 simp only [T2 ih]
theorem Nk (g:List FGroup)(r r':List Int)(i:Nat):W3 ⟨g,r⟩ i=W3 ⟨g,r'⟩ i:=by
 have h1:∀ lo b,Z7 ⟨g,r⟩ i lo b=Z7 ⟨g,r'⟩ i lo b:=fun lo b=>by funext x A sn;exact MD g r r' i lo b x A sn
 have h2:∀ env c l q,VF ⟨g,r⟩ i env c l q=VF ⟨g,r'⟩ i env c l q:=by
  intro env c l
  induction l with
  | nil=>intro q;rfl
  | cons t l ih =>
    intro q
    have:WV ⟨g,r⟩ i env c t q=WV ⟨g,r'⟩ i env c t q:=by unfold WV WE;simp only [h1]
    simp only [VF,this]
    cases WV ⟨g,r'⟩ i env c t q with
    | none=>rfl
    | some x=>exact ih x
 have h3:Xw ⟨g,r⟩ i=Xw ⟨g,r'⟩ i:=by
  funext c
  unfold Xw
  simp only [h2]
 unfold W3
 rw [h3]
theorem MU {f:Flat}(b:Nat)(h:Vv f=0):Vv (Z3 f b)=0:=by
 unfold Vv at h ⊢
 split at h
 ·rename_i hok
  rw [if_pos]
  obtain ⟨g,l⟩:=f
  unfold Sb at hok ⊢
  simp only [Bool.and_eq_true,List.all_eq_true] at hok ⊢
  refine ⟨⟨hok.1.1,fun n hn=>?_⟩,fun i hi=>by rw [← hok.2 i hi];exact Nk g _ l i⟩
  rcases List.mem_or_eq_of_mem_set hn with hn | hn
  ·exact hok.1.2 n hn
  ·subst hn;unfold Vf;simp
 ·exact absurd h (by decide)
theorem QH (g:List FGroup)(r r':List Int)(pred:Str):∀ (l:List Int) (k:Nat),hrl ⟨g,r⟩ pred k l=hrl ⟨g,r'⟩ pred k l
 | [],_=>rfl
 | n::l,k=>by simp only [hrl,QH g r r' pred l];rfl
def Y5 (b:Nat)(x:Pick):Bool:=!decide (x.rule=(b:Int))
theorem JG (f:Flat)(pred:Str):∀ (l:List Int) (k b:Nat),hrl f pred k (l.set b (-1))=(hrl f pred k l).filter (Y5 (k+b))
 | [],_,_=>rfl
 | c::r,k,0=>by
   have h1:(Xd f pred k c).filter (Y5 (k+0))=[]:=by
    rw [List.filter_eq_nil_iff];intro x hx;have:=(Vi hx).1;simp [Y5,this]
   have h2:(hrl f pred (k+1) r).filter (Y5 (k+0))=hrl f pred (k+1) r:=by
    rw [List.filter_eq_self];intro x hx;obtain ⟨i,_,_,h,_⟩:=Ni hx;simp [Y5,h];omega
   simp only [List.set_cons_zero,hrl,List.filter_append,h1,h2]
   rfl
 | c::r,k,b+1=>by
   have h1:(Xd f pred k c).filter (Y5 (k+(b+1)))=Xd f pred k c:=by
    rw [List.filter_eq_self];intro x hx;have:=(Vi hx).1;simp [Y5,this];omega
   simp only [List.set_cons_succ,hrl,List.filter_append,h1,JG f pred r (k+1) b]
   rw [show k+1+b=k+(b+1) by omega]
theorem Ws (f:Flat)(pred:Str)(b:Nat):Z6 (Z3 f b) pred=(Z6 f pred).filter (Y5 b):=by
 unfold Z6 Z3
 rw [QH f.groups _ f.rules]
 have:=JG f pred f.rules 0 b
 rw [Nat.zero_add] at this
 exact this
def TP (f:Flat)(x:Pick):Row:=⟨x,match Y0 f x with | some c=>c.args.map Z4 | none=>[]⟩
theorem TM (f:Flat):∀ (l:List Pick) (out:List Row) (n:Nat) (q:List Row×Nat),ZJ f l out n=some q →
 q.1=out++l.map (TP f)∧(out≠[]→q.2=n)∧∀ x∈l,∃ c,Y0 f x=some c∧c.args.length=q.2∧q.2≤8
 | [],out,n,q,h=>by
   simp only [ZJ,Option.some.injEq] at h;subst h
   exact ⟨by simp,fun _=>rfl,by simp⟩
 | x::r,out,n,q,h=>by
   simp only [ZJ] at h
   cases hc:Y0 f x with
   | none=>rw [hc] at h;cases h
   | some c =>
     rw [hc] at h
     simp only at h
     split at h
     ·cases h
     ·rename_i hb
      obtain ⟨i1,i2,i3⟩:=TM f r _ _ q h
      have i4:q.2=c.args.length:=i2 (by simp)
      refine ⟨?_,fun ho=>?_,fun y hy=>?_⟩
      ·rw [i1,List.append_assoc,List.map_cons,TP,hc];rfl
      ·have:=List.length_pos_iff.2 ho;omega
      ·rcases List.mem_cons.1 hy with e | hy
       ·subst e;exact ⟨c,hc,i4.symm,by omega⟩
       ·exact i3 y hy
theorem S6 (f:Flat)(N:Nat)(hN:N≤8):∀ (l:List Pick) (out:List Row) (n:Nat),(∀ x∈l,∃ c,Y0 f x=some c∧c.args.length=N)→(out≠[]→n=N) →
 ∃ m,ZJ f l out n=some (out++l.map (TP f),m)∧(out++l.map (TP f)≠[]→m=N)
 | [],out,n,_,ho=>⟨n,by simp [ZJ],by simpa using ho⟩
 | x::r,out,n,h,ho=>by
   obtain ⟨c,hc,hl⟩:=h x List.mem_cons_self
   obtain ⟨m,h1,h2⟩:=S6 f N hN r (out++[⟨x,c.args.map Z4⟩]) N (fun y hy=>h y (List.mem_cons_of_mem _ hy)) (fun _=>rfl)
   have e:out++[⟨x,c.args.map Z4⟩]++r.map (TP f)=out++(x::r).map (TP f):=by rw [List.append_assoc,List.map_cons,TP,hc];rfl
   rw [e] at h1 h2
   refine ⟨m,?_,h2⟩
   simp only [ZJ,hc,hl]
   rw [if_neg,h1]
   rintro (⟨h3,h4⟩ | h3)
   ·exact h4 (ho (List.length_pos_iff.1 h3)).symm
   ·omega
theorem OQ (f:Flat)(pred:Str)(b:Nat)(h:(ZM f pred).2.2=0) :
 ZM (Z3 f b) pred=if (ZM f pred).1.filter (fun r=>Y5 b r.pick)=[] then ([],0,3) else ((ZM f pred).1.filter (fun r=>Y5 b r.pick),(ZM f pred).2.1,0):=by
 have hchk:=(XB f pred h).1
 have hq:=MU b hchk
 cases hl:ZJ f (Z6 f pred) [] 0 with
 | none=>unfold ZM at h;rw [if_neg (by omega),hl] at h;exact absurd h (by decide)
 | some q =>
   have hR:ZM f pred=if q.1=[] then ([],0,3) else (q.1,q.2,0):=by unfold ZM;rw [if_neg (by omega),hl]
   have hne:q.1≠[]:=fun e=>by rw [hR,if_pos e] at h;exact absurd h (by decide)
   rw [if_neg hne] at hR
   rw [hR]
   unfold ZM
   rw [if_neg (by omega),Ws]
   obtain ⟨i1,_,i3⟩:=TM f _ _ _ _ hl
   rw [List.nil_append] at i1
   have h8:q.2≤8:=by
    cases hh:Z6 f pred with
    | nil=>rw [hh] at i1;exact absurd i1 hne
    | cons a r=>obtain ⟨_,_,_,h⟩:=i3 a (by rw [hh];exact List.mem_cons_self);exact h
   have ecl:∀ x∈(Z6 f pred).filter (Y5 b),Y0 (Z3 f b) x=Y0 f x:=by
    intro x hx
    obtain ⟨x1,x2⟩:=List.mem_filter.1 hx
    obtain ⟨i,j,_,_,_,rfl,_⟩:=QI x1
    have:b≠i:=by simp [Y5] at x2;omega
    unfold Y0 Z3
    simp only [Int.toNat_natCast,List.getElem?_set,if_neg this]
   obtain ⟨m,m1,m2⟩:=S6 (Z3 f b) q.2 h8 ((Z6 f pred).filter (Y5 b)) [] 0 (fun x hx=>by
    obtain ⟨c,c1,c2,_⟩:=i3 x (List.mem_filter.1 hx).1
    exact ⟨c,by rw [ecl x hx];exact c1,c2⟩) (fun h=>absurd rfl h)
   rw [List.nil_append] at m1 m2
   have er:((Z6 f pred).filter (Y5 b)).map (TP (Z3 f b))=q.1.filter (fun r=>Y5 b r.pick):=by
    rw [i1,List.filter_map]
    refine (List.map_congr_left (fun x hx=>?_))
    unfold TP;rw [ecl x hx]
   rw [er] at m1 m2
   rw [m1]
   simp only
   split
   ·rfl
   ·rename_i hx;rw [m2 hx]
theorem GR {l:List Tm}(h:Ul l=true)(a:Nat)(v:Tm)(hv:WL v=0):Ul (l.set a v)=true:=by
 unfold Ul at h ⊢
 rw [List.all_eq_true] at h ⊢
 intro x hx
 rcases List.mem_or_eq_of_mem_set hx with hx | hx
 ·exact h x hx
 ·subst hx;exact decide_eq_true hv
theorem Fg (f:Flat)(pred:Str)(args:List Tm)(he:(ZP f pred).2=0)(hg:(Yy (ZP f pred).1 args).2=0)(hn:(((WA f pred).2.1:Nat):Int)=((args.length:Nat):Int)) :
 (Yy (ZP f pred).1 args).1.length≤(Z6 f pred).length∧(∀ (a:Nat) (v:Tm),WL v=0→(Xh v).any=true→(Yy (ZP f pred).1 (args.set a v)).2=0∧∀ x∈(Yy (ZP f pred).1 args).1,x∈(Yy (ZP f pred).1 (args.set a v)).1) ∧
 ∀ b:Nat,((ZP (Z3 f b) pred).2≠0→(ZP (Z3 f b) pred).2≠3→(ZP (Z3 f b) pred).2=2) ∧
   ((ZP (Z3 f b) pred).2=0→Yy (ZP (Z3 f b) pred).1 args=((Yy (ZP f pred).1 args).1.filter (Y5 b),0)):=by
 obtain ⟨h0,hf,hs⟩:=Q7 f pred he
 have hn':args.length=(ZM f pred).2.1:=by
  unfold WA at hn
  rw [if_neg (by omega)] at hn
  simp only at hn
  omega
 rw [← hn'] at hf
 have eb:∀ u l,Yy u l=if 8<l.length∨Ul l=false then ([],1) else if YW u (l.length:Nat)=false then ([],230) else (WC u l,0):=fun u l=>rfl
 rw [eb] at hg
 have hx:¬ (8<args.length∨Ul args=false):=fun h=>by rw [if_pos h] at hg;exact absurd hg (by decide)
 have e1:Yy (ZP f pred).1 args=(WC (ZP f pred).1 args,0):=by rw [eb,if_neg hx,hf,if_neg (by decide)]
 have hr:Ul args=true:=by cases h:Ul args with | true=>rfl | false=>exact absurd (.inr h) hx
 rw [e1]
 refine ⟨?_,fun a v hv hc=>?_,fun b=>?_⟩
 ·simp only
  rw [hs args hn',List.length_map,← (XB f pred h0).2.2.2.2,List.length_map]
  exact List.length_filter_le _ _
 ·have e2:Yy (ZP f pred).1 (args.set a v)=(WC (ZP f pred).1 (args.set a v),0):=by
   rw [eb,if_neg,List.length_set,hf,if_neg (by decide)]
   rw [List.length_set,GR hr a v hv]
   rintro (h | h)
   ·exact hx (.inl h)
   ·cases h
  rw [e2]
  refine ⟨rfl,?_⟩
  simp only
  rw [hs args hn',hs (args.set a v) (by rw [List.length_set];exact hn')]
  exact Kw args a v hc _
 ·have hw:=OQ f pred b h0
  refine ⟨fun h1 h2=>?_,fun h1=>?_⟩
  ·unfold ZP at h1 h2 ⊢
   rw [hw] at h1 h2 ⊢
   by_cases hx:(ZM f pred).1.filter (fun r=>Y5 b r.pick)=[]
   ·simp only [if_pos hx] at h2
    exact absurd rfl h2
   ·simp only [if_neg hx,ne_eq,not_true_eq_false,if_false] at h1 h2 ⊢
    split at h1
    ·rfl
    ·exact absurd rfl h1
  ·obtain ⟨g0,gf,gs⟩:=Q7 (Z3 f b) pred h1
   rw [hw] at g0 gf gs
   split at g0
   ·exact absurd g0 (by decide)
   ·rename_i hne
    rw [if_neg hne] at gf gs
    simp only at gf gs
    rw [← hn'] at gf
    rw [eb,if_neg hx,gf,if_neg (by decide),gs args hn',hs args hn',List.filter_map,List.filter_filter,List.filter_filter]
    congr 2
    refine List.filter_congr (fun r _=>?_)
    rw [Bool.and_comm];rfl
end Go.Vx
end
