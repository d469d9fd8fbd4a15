/- Part Q40 of the proof of treeLooksProved: the walk of the program on abstract values, and the plain law. -/
import Derived.Test.YtmedmnondjmleaaGreatQBt
import Derived.Test.YtmedmnondjmleaaGreatQ31
import Derived.Test.YtmedmnondjmleaaGreatQ33
import Derived.Test.YtmedmnondjmleaaGreatQ32
import Derived.Test.YtmedmnondjmleaaGreatQ38
set_option linter.unusedVariables false
set_option linter.unusedSimpArgs false
section
namespace Go.Vx
open Go Go.Proofs Go.ChangeShapes Go.WideShapes Go.RowKit
set_option maxRecDepth 100000 in
theorem L5 {H:Type}{enc:TypeId×Value→H}{f:Func}{s:ChangeSpec}{W:World}{base:Nat}{args:Array Value}{ds gs:List (DataW H)}{before:List MemPlace}(hpar:f.params=#[25,30,9])(hsv:s.vars=[])
 (hval:∀ (j:Nat) t v,f.params[j]?=some t→args[j]?=some v→Value.okWide Tryz.prog W .any base t v)
 (hW:DataW.Whole enc Tryz.prog f.params.toList s.vars false W args.toList ds gs before) (hk:Go.Proofs.YtmedmnondjmleaaGreat.Rows.uptoSmall H (ds++gs)=true) :
 ∃ (fl:Flat) (t:Tr) (pred:Str) (d1 d2 d3:DataW H),ds=[d1,d2,d3]∧gs=[]∧S8 fl≤1048576∧trN t≤1048576 ∧
   Vs (live []) W [.agg fl.emb,.agg t.emb,vs pred] args.toList:=by
 have hk':Go.Proofs.YtmedmnondjmleaaGreat.Rows.uptoBulkAll (ds++gs)≤1048576:=of_decide_eq_true hk
 obtain ⟨p,q,hA,hV,rfl,hz,hn⟩:=hW
 rw [hsv] at hV
 obtain ⟨rfl,rfl⟩:=trodVars_none hV
 rw [hpar] at hA hval
 obtain ⟨v1,v2,v3,d1,d2,d3,p1,p2,p3,rfl,rfl,rfl,h1,h2,h3⟩:=trodAll_three hA
 simp only [List.append_nil,Go.Proofs.YtmedmnondjmleaaGreat.Rows.uptoBulkAll] at hk'
 obtain ⟨fl,a1,a2⟩:=Db DR Tryz.underlying25 (hval 0 _ v1 rfl rfl) h1 (by omega)
 obtain ⟨t,b1,b2⟩:=Db Jw Tryz.underlying30 (hval 1 _ v2 rfl rfl) h2 (by omega)
 obtain ⟨pred,rfl⟩:=okWide_string Tryz.underlying9 (hval 2 _ v3 rfl rfl)
 refine ⟨fl,t,pred,d1,d2,d3,rfl,rfl,by omega,by have:=Rx t;omega,rfl,fun i a v ha hv=>?_⟩
 match i with
 | 0=>simp at ha hv;subst ha;subst hv;exact a1
 | 1=>simp at ha hv;subst ha;subst hv;exact b1
 | 2=>simp at ha hv;subst ha;subst hv;exact .val _
 | i+3=>simp at ha
end Go.Vx
end
section
namespace Go.Vx
theorem Qb {a:Int}{l:List Row}{s:Str}{T:Tr}:∀ {c:List Cs},WH a l c=true→Cs.mk s T∈c→YG T (ofS l a ⟨false,s⟩)=true
 | [],_,h=>by simp at h
 | .mk m U::r,hr,h=>by
   simp only [WH,LO,Bool.and_eq_true] at hr
   rcases List.mem_cons.1 h with e | h
   ·injection e with e1 e2;subst e1;subst e2;exact hr.1
   ·exact Qb hr.2 h
theorem Oj {n:Int}:∀ {l:List Tr} {q:Bool×ML},(Z3 n l q).1=true→q.1=true∧∀ x∈l,∃ q',(frm n x q').1=true
 | [],q,h=>⟨by simpa only [Z3] using h,by simp⟩
 | t::r,q,h=>by
   simp only [Z3] at h
   split at h
   ·rename_i hq
    obtain ⟨h1,h2⟩:=Oj h
    exact ⟨hq,fun x hx=>by
     rcases List.mem_cons.1 hx with e | hx
     ·subst e;exact ⟨_,h1⟩
     ·exact h2 x hx⟩
   ·rename_i hq;exact absurd h hq
end Go.Vx
end
section
namespace Go.Vx
open Go.Proofs
theorem Rc {B:List Row→Int→Option (Tr×Int)}{l:List Row}{a:Int}(hB:∀ l n t m,0≤n→B l n=some (t,m)→0≤m∧n-m=trN t):∀ {ns:List Str} {n:Int} {cs:List Cs} {m:Int},0≤n→XH B l a ns n=some (cs,m)→0≤m∧n-m=csN cs
 | [],n,cs,m,hn,h=>by
   simp only [XH,Option.some.injEq,Prod.mk.injEq] at h
   obtain ⟨rfl,rfl⟩:=h
   simp only [csN];omega
 | u::r,n,cs,m,hn,h=>by
   simp only [XH] at h
   cases hb:B (l.filter fun x=>YD (YT x a) ⟨false,u⟩) n with
   | none=>rw [hb] at h;cases h
   | some p =>
     obtain ⟨T,n1⟩:=p
     rw [hb] at h
     simp only at h
     cases hc:XH B l a r n1 with
     | none=>rw [hc] at h;cases h
     | some p2 =>
       obtain ⟨cs',n2⟩:=p2
       rw [hc] at h
       simp only [Option.some.injEq,Prod.mk.injEq] at h
       obtain ⟨rfl,rfl⟩:=h
       obtain ⟨b1,b2⟩:=hB _ _ _ _ hn hb
       obtain ⟨c1,c2⟩:=Rc hB b1 hc
       simp only [csN,AE];omega
theorem To (n:Nat):∀ (k:Nat) (l:List Row) (left:Int) (t:Tr) (m:Int),0≤left→Ww n k l left=some (t,m)→0≤m∧left-m=trN t-1
 | 0,l,left,t,m,hl,h=>by
   simp only [Ww,Option.some.injEq,Prod.mk.injEq] at h
   obtain ⟨rfl,rfl⟩:=h
   simp only [trN,trNs,csN];omega
 | k+1,l,left,t,m,hl,h=>by
   simp only [Ww] at h
   split at h
   ·exact To n k l left t m hl h
   ·unfold Ut at h
    obtain ⟨B,hB⟩:∃ B,B=(fun (l:List Row) (left:Int)=>if left-1<0 then none else Ww n k l (left-1)):=⟨_,rfl⟩
    rw [← hB] at h
    have hb:∀ l n t m,0≤n→B l n=some (t,m)→0≤m∧n-m=trN t:=fun l n' t m hn h'=>by
     rw [hB] at h'
     simp only at h'
     split at h'
     ·cases h'
     ·have:=To n k l (n'-1) t m (by omega) h'
      omega
    generalize (((n-(k+1):Nat):Int))=a at h
    cases h1:B (l.filter fun x=>YD (YT x a) XB) left with
    | none=>rw [h1] at h;cases h
    | some p1 =>
      obtain ⟨tA,n1⟩:=p1
      rw [h1] at h
      simp only at h
      cases h2:XH B l a (YN l (n-(k+1))) n1 with
      | none=>rw [h2] at h;cases h
      | some p2 =>
        obtain ⟨cs,n2⟩:=p2
        rw [h2] at h
        simp only at h
        cases h3:B (l.filter fun x=>YD (YT x a) ⟨false,ZS⟩) n2 with
        | none=>rw [h3] at h;cases h
        | some p3 =>
          obtain ⟨tE,n3⟩:=p3
          rw [h3] at h
          simp only [Option.some.injEq,Prod.mk.injEq] at h
          obtain ⟨rfl,rfl⟩:=h
          obtain ⟨a1,a2⟩:=hb _ _ _ _ hl h1
          obtain ⟨b1,b2⟩:=Rc hb a1 h2
          obtain ⟨c1,c2⟩:=hb _ _ _ _ b1 h3
          simp only [trN,trNs];omega
theorem R4 (q:ML)(x y:Int)(b:Bool):Xv (Ud q x b) y=if y=x then b else Xv q y:=by
 unfold Xv Ud
 simp only [Mj]
 by_cases h:y=x<;>simp [h]
end Go.Vx
end
section
namespace Go.Vx
open Go.Proofs
theorem Hw (f:Flat)(pred:Str):trN (YK f pred).1≤4000:=by
 unfold YK
 split
 ·show trN (.mk 0 [] 0 [] [] [])≤4000;decide
 ·split
  ·show trN (.mk 0 [] 0 [] [] [])≤4000;decide
  ·rename_i t m hb
   unfold Tu at hb
   rw [if_neg (by decide)] at hb
   obtain ⟨c1,c2⟩:=To _ _ _ _ _ _ (by decide) hb
   simp only;omega
end Go.Vx
end
section
namespace Go.Vx
open Go.Proofs
def bO (f:Flat)(b:Nat):Flat:=⟨f.groups,f.rules.set b (-1)⟩
def Ju (f:Flat)(x:Pick):Row:=⟨x,match Wa f x with | some c=>c.args.map Yh | none=>[]⟩
theorem TM (f:Flat):∀ (l:List Pick) (out:List Row) (n:Nat) (q:List Row×Nat),ZY f l out n=some q →
 q.1=out++l.map (Ju f)∧(out≠[]→q.2=n)∧∀ x∈l,∃ c,Wa f x=some c∧c.args.length=q.2∧q.2≤8
 | [],out,n,q,h=>by
   simp only [ZY,Option.some.injEq] at h;subst h
   exact ⟨by simp,fun _=>rfl,by simp⟩
 | x::r,out,n,q,h=>by
   simp only [ZY] at h
   cases hc:Wa f x with
   | none=>rw [hc] at h;cases h
   | some c =>
     rw [hc] at h
     simp only at h
     split at h
     ·cases h
     ·rename_i hb
      obtain ⟨i1,i2,i3⟩:=TM f r _ _ q h
      have i4:q.2=c.args.length:=i2 (by simp)
      refine ⟨?_,fun ho=>?_,fun y hy=>?_⟩
      ·rw [i1,List.append_assoc,List.map_cons,Ju,hc];rfl
      ·have:=List.length_pos_iff.2 ho;omega
      ·rcases List.mem_cons.1 hy with e | hy
       ·subst e;exact ⟨c,hc,i4.symm,by omega⟩
       ·exact i3 y hy
end Go.Vx
end
section
namespace Go.Vx
open Go.Proofs
mutual
def lkT:Tr→List Int
 | .mk k _ a y c e=>(if k=2 then [a] else [])++(WA y++(WA e++Ci c))
def WA:List Tr→List Int
 | []=>[]
 | t::r=>lkT t++WA r
def Ci:List Cs→List Int
 | []=>[]
 | c::r=>lkC c++Ci r
def lkC:Cs→List Int
 | .mk _ t=>lkT t
end
theorem JD:∀ c:List Cs,Ci c=WA (c.map Cs.tree)
 | []=>rfl
 | .mk s t::r=>by simp only [Ci,lkC,List.map_cons,WA,Cs.tree,JD r]
theorem Qo (l m:List Tr):WA (l++m)=WA l++WA m:=by
 induction l with
 | nil=>rfl
 | cons a r ih=>simp only [List.cons_append,WA,ih,List.append_assoc]
theorem L6 (k:Int)(p:List Pick)(a:Int)(y:List Tr)(c:List Cs)(e:List Tr):lkT (.mk k p a y c e)=(if k=2 then [a] else [])++WA (ZH (.mk k p a y c e)):=by
 simp only [lkT,ZH,Qo,JD,List.append_assoc]
theorem Ft {x:Int}{l:List Tr}(h:x∈WA l):∃ t∈l,x∈lkT t:=by
 induction l with
 | nil=>simp [WA] at h
 | cons a r ih =>
   simp only [WA,List.mem_append] at h
   rcases h with h | h
   ·exact ⟨a,List.mem_cons_self,h⟩
   ·obtain ⟨t,h1,h2⟩:=ih h;exact ⟨t,List.mem_cons_of_mem _ h1,h2⟩
def Uv (t:Tr):List Int:=if 4000<WD t 4000 then [] else Vv (dd (lkT t))
def RC (t:Tr):Int:=min (Uw t 9) 10
theorem QI {n:Int}:∀ {l:List Tr} (q:Bool×ML),(∀ x∈l,∀ (q:ML) (y:Int),Xv (frm n x q).2 y=Xv q y)→∀ y,Xv (Z3 n l q).2 y=Xv q.2 y
 | [],q,_,y=>by simp only [Z3]
 | t::r,q,h,y=>by
   simp only [Z3]
   split
   ·rw [QI _ (fun x hx=>h x (List.mem_cons_of_mem _ hx)),h t List.mem_cons_self]
   ·rfl
theorem Eh (n:Int)(t:Tr):∀ (q:ML) (y:Int),Xv (frm n t q).2 y=Xv q y:=by
 refine Xa (M:=fun t=>∀ (q:ML) (y:Int),Xv (frm n t q).2 y=Xv q y) (fun t ih q y=>?_) t
 obtain ⟨k,p,a,ys,c,e⟩:=t
 by_cases h2:k=2
 ·subst h2
  rw [JO]
  split
  ·rfl
  ·rename_i hbad
   simp only [WZ,Bool.or_eq_true,decide_eq_true_eq,not_or,Bool.not_eq_true] at hbad
   obtain ⟨⟨⟨⟨⟨⟨_,hs⟩,_⟩,_⟩,_⟩,_⟩,_⟩:=hbad
   simp only
   rw [R4]
   by_cases hy:y=a
   ·rw [if_pos hy,hy,hs]
   ·rw [if_neg hy,QI (l:=ys++e++c.map Cs.tree) _ (fun x hx=>ih x (Yj (t:=.mk 2 p a ys c e) hx))]
    simp only
    rw [R4,if_neg hy]
 ·simp only [frm,if_neg h2]
  split<;>rfl
theorem QJ {n:Int}:∀ {l:List Tr} {q:Bool×ML},(Z3 n l q).1=true→∀ x∈l,∃ q',(frm n x q').1=true∧∀ y,Xv q' y=Xv q.2 y
 | [],q,h=>by simp
 | t::r,q,h=>by
   simp only [Z3] at h
   split at h
   ·intro x hx
    rcases List.mem_cons.1 hx with e | hx
    ·subst e;exact ⟨q.2,(Oj h).1,fun _=>rfl⟩
    ·obtain ⟨q',h1,h2⟩:=QJ h x hx
     exact ⟨q',h1,fun y=>by rw [h2,Eh]⟩
   ·rename_i hq;exact absurd h hq
theorem QF {n:Nat}{p:List Pick}{a:Int}{y:List Tr}{c:List Cs}{e:List Tr}{q:ML}(h:(frm (n:Nat) (.mk 2 p a y c e) q).1=true) :
 ∃ (ai:Nat) (y0 e0:Tr),a=(ai:Int)∧ai<n∧y=[y0]∧e=[e0]∧Xv q (ai:Nat)=false∧∀ x∈ZH (.mk 2 p a y c e),∃ q',(frm (n:Nat) x q').1=true∧∀ y,Xv q' y=if y=(ai:Int) then true else Xv q y:=by
 rw [JO] at h
 split at h
 ·simp at h
 ·rename_i hbad
  simp only [WZ,Bool.or_eq_true,decide_eq_true_eq,not_or,Bool.not_eq_true,Decidable.not_not] at hbad
  obtain ⟨⟨⟨⟨⟨⟨⟨g1,g2⟩,hs⟩,gy⟩,ge⟩,_⟩,_⟩,_⟩:=hbad
  obtain ⟨y0,rfl⟩:=List.length_eq_one_iff.1 gy
  obtain ⟨e0,rfl⟩:=List.length_eq_one_iff.1 ge
  have ha:a=((a.toNat:Nat):Int):=by omega
  refine ⟨a.toNat,y0,e0,ha,by omega,rfl,rfl,by rw [← ha];exact hs,fun x hx=>?_⟩
  obtain ⟨q',h1,h2⟩:=QJ h x hx
  exact ⟨q',h1,fun y=>by rw [h2];simp only;rw [R4,← ha]⟩
theorem QE {n:Int}{k:Int}{p:List Pick}{a:Int}{y:List Tr}{c:List Cs}{e:List Tr}{q:ML}(h:(frm n (.mk k p a y c e) q).1=true)(h2:k≠2):k=1∧ZH (.mk k p a y c e)=[]:=by
 simp only [frm,if_neg h2] at h
 split at h
 ·rename_i h1
  simp only [Bool.and_eq_true,decide_eq_true_eq] at h
  exact ⟨h1,List.length_eq_zero_iff.1 h.1.2⟩
 ·cases h
theorem Hd (n:Nat)(t:Tr):∀ q:ML,(frm (n:Nat) t q).1=true→∀ x∈lkT t,0≤x∧x<((n:Nat):Int):=by
 refine Xa (M:=fun t=>∀ q:ML,(frm (n:Nat) t q).1=true→∀ x∈lkT t,0≤x∧x<((n:Nat):Int)) (fun t ih q h x hx=>?_) t
 obtain ⟨k,p,a,y,c,e⟩:=t
 rw [L6,List.mem_append] at hx
 by_cases h2:k=2
 ·subst h2
  obtain ⟨ai,y0,e0,ha,hn,_,_,_,hk⟩:=QF h
  rcases hx with hx | hx
  ·simp at hx;omega
  ·obtain ⟨u,hu,hxu⟩:=Ft hx
   obtain ⟨q',h1,_⟩:=hk u hu
   exact ih u (Yj hu) q' h1 x hxu
 ·obtain ⟨_,hp⟩:=QE h h2
  rw [hp,if_neg h2] at hx
  simp [WA] at hx
theorem JU (s:Nat→Bool)(a:Nat)(hs:s a=false):∀ n,a<n→(List.range n).countP (fun y=>!(if y=a then true else s y))+1=(List.range n).countP (fun y=>!s y)
 | 0,h=>by omega
 | n+1,h=>by
   rw [List.range_succ,List.countP_append,List.countP_append,List.countP_singleton,List.countP_singleton]
   by_cases e:a=n
   ·subst e
    rw [if_pos rfl,hs]
    have:(List.range a).countP (fun y=>!(if y=a then true else s y))=(List.range a).countP (fun y=>!s y):=by
     refine List.countP_congr (fun y hy=>?_)
     rw [List.mem_range] at hy
     rw [if_neg (by omega)]
    rw [this];simp
   ·rw [if_neg (Ne.symm e)]
    have:=JU s a hs n (by omega)
    omega
def Th (n:Nat)(q:ML):Nat:=(List.range n).countP (fun y:Nat=>!Xv q (y:Int))
theorem FB {l:List Tr}{m:Int}{B:Int}(h:∀ x∈l,Uw x (m-1)≤B):∀ k:Int,k≤B→X4 l m k≤B:=by
 induction l with
 | nil=>intro k hk;exact hk
 | cons a r ih =>
   intro k hk
   simp only [X4]
   exact ih (fun x hx=>h x (List.mem_cons_of_mem _ hx)) _ (by have:=h a List.mem_cons_self;omega)
theorem CB (n:Nat)(t:Tr):∀ (q:ML) (m:Int),(frm (n:Nat) t q).1=true→Uw t m≤((Th n q:Nat):Int)+1:=by
 refine Xa (M:=fun t=>∀ (q:ML) (m:Int),(frm (n:Nat) t q).1=true→Uw t m≤((Th n q:Nat):Int)+1) (fun t ih q m h=>?_) t
 rw [O6]
 obtain ⟨k,p,a,y,c,e⟩:=t
 by_cases h2:k=2
 ·subst h2
  obtain ⟨ai,y0,e0,ha,hn,_,_,hs,hk⟩:=QF h
  split
  ·refine Int.add_le_add_right (FB (fun x hx=>?_) 0 (by omega)) 1
   obtain ⟨q',h1,hq⟩:=hk x hx
   have:=ih x (Yj hx) q' (m-1) h1
   have e1:Th n q'+1=Th n q:=by
    unfold Th
    rw [← JU (fun y:Nat=>Xv q (y:Int)) ai hs n hn]
    congr 1
    refine List.countP_congr (fun y _=>?_)
    rw [hq]
    by_cases hy:y=ai
    ·rw [if_pos hy,if_pos (by omega)]
    ·rw [if_neg hy,if_neg (by omega)]
   omega
  ·omega
 ·obtain ⟨_,hp⟩:=QE h h2
  rw [hp]
  simp only [X4]
  split<;>omega
inductive Gd (f:Flat):Tr→List Bool→Prop where
 | leaf (p:List Pick) (a:Int) (y:List Tr) (c:List Cs) (e:List Tr) (seen:List Bool)
  (h:∀ x∈p,∃ (i j:Nat) (n:Int) (u:FGroup) (cl:FClause),x=⟨i,j⟩∧f.rules[i]?=some n∧0≤n∧f.groups[n.toNat]?=some u∧u.alts[j]?=some cl∧∀ (k:Nat) (kd m:Int) (s:Str) (l:List Tm),cl.args[k]?=some (.mk kd m s l)→seen[k]?=some false→kd≠1):Gd f (.mk 1 p a y c e) seen
 | node (a:Nat) (p:List Pick) (y:Tr) (c:List Cs) (e:Tr) (seen:List Bool) (ha:a<seen.length) (hy:Gd f y (seen.set a true)) (he:Gd f e (seen.set a true)) (hc:∀ x∈c,Gd f x.tree (seen.set a true)):Gd f (.mk 2 p a [y] c [e]) seen
theorem DN (f:Flat)(pred:Str)(h:(Z1 f pred).2.2=0){r:Row}(hr:r∈(Z1 f pred).1):∃ x∈YI f pred,r=Ju f x:=by
 unfold Z1 at h hr
 split at h
 ·rename_i h0;exact absurd h h0
 ·rename_i h0
  rw [if_neg h0] at hr
  cases hl:ZY f (YI f pred) [] 0 with
  | none=>rw [hl] at h;exact absurd h (by decide)
  | some q =>
    rw [hl] at h hr
    simp only at h hr
    split at h
    ·exact absurd h (by decide)
    ·rename_i ho
     rw [if_neg ho] at hr
     obtain ⟨i1,_,_⟩:=TM f _ _ _ _ hl
     rw [i1,List.nil_append,List.mem_map] at hr
     obtain ⟨x,hx,e⟩:=hr
     exact ⟨x,hx,e.symm⟩
def Lm (l0 l:List Row)(seen:List Bool):Prop:=∀ r∈l,∃ r0∈l0,r.pick=r0.pick∧∀ k:Nat,seen[k]?=some false→r.classes[k]?=r0.classes[k]?
theorem Lm.of {l0 l:List Row}{seen:List Bool}(h:Lm l0 l seen)(a:Nat)(c:Cls):Lm l0 (ofS l (a:Nat) c) (seen.set a true):=by
 intro r hr
 unfold ofS at hr
 obtain ⟨r',h1,rfl⟩:=List.mem_map.1 hr
 obtain ⟨r0,h2,h3,h4⟩:=h r' (List.mem_filter.1 h1).1
 refine ⟨r0,h2,h3,fun k hk=>?_⟩
 rw [List.getElem?_set] at hk
 by_cases hak:a=k
 ·rw [if_pos hak] at hk;split at hk<;>simp at hk
 ·rw [if_neg hak] at hk
  simp only [YM,Int.toNat_natCast,List.getElem?_set,if_neg hak]
  exact h4 k hk
theorem GO (f:Flat)(pred:Str)(h0:(Z1 f pred).2.2=0)(n:Nat)(t:Tr):∀ (l:List Row) (q:ML) (seen:List Bool),(frm (n:Nat) t q).1=true→YG t l=true→seen.length=n→Lm (Z1 f pred).1 l seen→Gd f t seen:=by
 refine Xa (M:=fun t=>∀ (l:List Row) (q:ML) (seen:List Bool),(frm (n:Nat) t q).1=true→YG t l=true→seen.length=n→Lm (Z1 f pred).1 l seen→Gd f t seen) (fun t ih l q seen hf hr hs hl=>?_) t
 obtain ⟨k,p,a,y,c,e⟩:=t
 by_cases h2:k=2
 ·subst h2
  obtain ⟨ai,y0,e0,rfl,hn,rfl,rfl,_,hk⟩:=QF hf
  simp only [YG,Rz] at hr
  rw [if_neg (by decide)] at hr
  simp only [Bool.and_eq_true] at hr
  obtain ⟨⟨⟨_,r1⟩,r2⟩,r3⟩:=hr
  have kid:∀ x∈ZH (.mk 2 p (ai:Nat) [y0] c [e0]),∀ cl,YG x (ofS l (ai:Nat) cl)=true→Gd f x (seen.set ai true):=fun x hx cl hr=>by
   obtain ⟨q',h1,_⟩:=hk x hx
   exact ih x (Yj hx) _ q' _ h1 hr (by simpa using hs) (hl.of ai cl)
  refine .node ai p y0 c e0 seen (by omega) (kid y0 (by simp [ZH]) _ r1) (kid e0 (by simp [ZH]) _ r2) (fun x hx=>?_)
  obtain ⟨s,T⟩:=x
  exact kid T (by simp only [ZH,List.mem_append,List.mem_map];exact .inr ⟨_,hx,rfl⟩) _ (Qb r3 hx)
 ·obtain ⟨h1,_⟩:=QE hf h2
  subst h1
  simp only [YG,if_true,Bool.and_eq_true,decide_eq_true_eq,List.all_eq_true] at hr
  refine .leaf p a y c e seen (fun x hx=>?_)
  rw [hr.1] at hx
  obtain ⟨r,hr1,rfl⟩:=List.mem_map.1 hx
  obtain ⟨r0,g1,g2,g3⟩:=hl r hr1
  obtain ⟨x0,g4,g5⟩:=DN f pred h0 g1
  obtain ⟨i,j,m,u,cl,e1,e2,e3,e4,e5,e6⟩:=MC g4
  refine ⟨i,j,m,u,cl,by rw [g2,g5];exact e1,e2,e3,e4,e5,fun k kd m' s l' hk hsk hkd=>?_⟩
  have hc:=g3 k hsk
  have:r0.classes[k]?=some (Yh (.mk kd m' s l')):=by rw [g5];simp only [Ju,e6];rw [List.getElem?_map,hk];rfl
  rw [this] at hc
  have hany:=hr.2 r hr1 _ (List.mem_of_getElem? hc)
  simp only [Yh,if_pos hkd] at hany
  cases hany
theorem Ob (f:Flat)(pred:Str)(t:Tr)(h:UF f pred t=0) :
 (∀ x∈Uv t,0≤x∧x<(((Xf f pred).2.1:Nat):Int))∧Gd f t (List.replicate (Xf f pred).2.1 false)∧RC t≤(((Xf f pred).2.1:Nat):Int)+1:=by
 unfold UF at h
 split at h
 ·rename_i h0;exact absurd h h0
 ·rename_i h0
  have h0':(Z1 f pred).2.2=0:=by omega
  have en:(Xf f pred).2.1=(Z1 f pred).2.1:=by unfold Xf;rw [if_neg h0]
  rw [en]
  split at h
  ·rename_i hok
   simp only [Bool.and_eq_true] at hok
   obtain ⟨hf,hr⟩:=hok
   unfold Xe at hf
   simp only [Bool.and_eq_true] at hf
   have hfr:=hf.2
   refine ⟨fun x hx=>?_,GO f pred h0' _ t _ _ _ hfr hr (by simp) (fun r hr=>⟨r,hr,rfl,fun _ _=>rfl⟩),?_⟩
   ·unfold Uv at hx
    split at hx
    ·cases hx
    ·unfold Vv at hx
     rw [(Xj _ _).mem_iff,SE] at hx
     exact Hd _ t _ hfr x hx
   ·have h1:=CB _ t _ 9 hfr
    have h2:Th (Z1 f pred).2.1 ([],0)≤(Z1 f pred).2.1:=by
     unfold Th
     have:=List.countP_le_length (p:=fun y:Nat=>!Xv ([],0) (y:Int)) (l:=List.range (Z1 f pred).2.1)
     rwa [List.length_range] at this
    unfold RC
    omega
  ·exact absurd h (by decide)
end Go.Vx
end
section
set_option maxRecDepth 100000
namespace Go.Vx
open Go.Proofs
theorem Ga:(Zh Tryz.prog 30=some 6)∧(Ze Tryz.prog 30=some true)∧(Zl Tryz.prog 141=some (.map none))∧(Zh Tryz.prog 141=some 1)∧(Zl Tryz.prog 142=some .nilFunc)∧(Zh Tryz.prog 142=some 1)∧(Ze Tryz.prog 142=some false)∧(Ze Tryz.prog 141=some false):=by
 refine ⟨?_,?_,?_,?_,?_,?_,?_,?_⟩<;>first | trivial | kernel_rfl
theorem U1:(Zz Tryz.prog 30 0=some 0)∧(Zh Tryz.prog 3=some 1)∧(Ze Tryz.prog 3=some false)∧(Zh Tryz.prog 141=some 1)∧(Ze Tryz.prog 141=some false)∧(Zz Tryz.prog 30 2=some 2)∧(Tryz.prog.underlying 141=some (.map 3 4))∧(Tryz.prog.underlying 3=some (.int .i64))∧(Zl Tryz.prog 4=some (.bool false))∧(Zh Tryz.prog 30=some 6)∧(Ze Tryz.prog 30=some true)∧(ZA Tryz.prog 27=some 30)∧(Zl Tryz.prog 30=some (.agg #[(.int .i64 0),(.slice none 0 0),(.int .i64 0),(.slice none 0 0),(.slice none 0 0),(.slice none 0 0)]))∧(Zh Tryz.prog 142=some 1)∧(Ze Tryz.prog 142=some false)∧(Tryz.prog.underlying 27=some (.slice 30)):=by
 refine ⟨?_,?_,?_,?_,?_,?_,?_,?_,?_,?_,?_,?_,?_,?_,?_,?_⟩<;>first | trivial | kernel_rfl
def Fu (b3 b4:Nat):Value:=.func (.func 82) #[] #[.pointer (some ⟨b3,0,none⟩),.pointer (some ⟨b4,0,none⟩)]
def mkO (ks:List Int):AObj:=.map (ZM keI (Y1 ks)) ks.length
theorem Fq (b3 b4 r:Nat)(h34:b3≠r)(h4:b4≠r)(t:Tr):trN t≤bigN→∀ (ks:List Int) (σ:Store),σ.get b3=some (.cells [.val (.map (some r))])→σ.get b4=some (.cells [.val (Fu b3 b4)])→σ.get r=some (mkO ks) →
 Zj Tryz.prog 82 [.agg t.emb,.val (.pointer (some ⟨b3,0,none⟩)),.val (.pointer (some ⟨b4,0,none⟩))] σ (fun x σ'=>x=.ret (.tup [])∧σ'=σ.set r (mkO ((lkT t).foldl VI ks))):=by
 refine Xa (M:=fun t=>trN t≤bigN→∀ (ks:List Int) (σ:Store),σ.get b3=some (.cells [.val (.map (some r))])→σ.get b4=some (.cells [.val (Fu b3 b4)])→σ.get r=some (mkO ks) →
  Zj Tryz.prog 82 [.agg t.emb,.val (.pointer (some ⟨b3,0,none⟩)),.val (.pointer (some ⟨b4,0,none⟩))] σ (fun x σ'=>x=.ret (.tup [])∧σ'=σ.set r (mkO ((lkT t).foldl VI ks)))) (fun t ih hB ks σ g3 g4 gr=>?_) t
 have hpc:=TP t hB
 have hpl:=WM t
 have hbig:bigN=1073741824:=rfl
 have hmem:∀ x∈ZH t,trN x<trN t:=fun x hx=>Yj hx
 obtain ⟨l,hl⟩:∃ l,l=ZH t:=⟨_,rfl⟩
 obtain ⟨k,p,a,y,c,e⟩:=t
 have hlk:=L6 k p a y c e
 rw [← hl] at hpc hpl hlk hmem
 rw [hlk]
 have hH:Has σ σ:=.refl σ
 have g3':=g3
 have g4':=g4
 simp only [cm,Fu] at hpc g4' ⊢
 refine Zc [] [] Tryz.func82 rfl (by kernel_rfl) ?_;rw [Tryz.ntmps82,Tryz.results82]
 refine iy ?_
 by_cases hk:k=2
 ·have e1:=eq_true hk
  rw [if_pos hk]
  try simp only [go_sem,seval,U1,e1,g3,decide_true]
  refine Y3 (l:=Y1 ks) (c:=ks.length) (kt:=3) (et:=4) (by kernel_rfl) (by kernel_rfl) gr ?_
  obtain ⟨u1,u2⟩:=TW ks a
  rw [u1,u2]
  refine iy ?_
  refine hpc.use ?_
  try simp only [go_sem,seval,U1,cu]
  refine Zv (mu:=[]) (dr:=[]) [5,15,16,17,18,19,20,21,22] (fun i:Nat=>[(15,vi i)]) (fun i=>σ.set r (mkO ((WA (l.take i)).foldl VI (VI ks a)))) (fun i=>i≤l.length) (fun i=>l.length-i) 0 (by kernel_rfl) (by omega) ⟨.refl _,trivial⟩ (.refl _) ?_
  intro i hi
  try simp only [go_sem,seval,U1,cu]
  refine ⟨fun h1=>⟨by omega,h1,fun d hd=>?_⟩,fun h1=>?_⟩
  ·rw [Int.toNat_natCast] at hd
   obtain ⟨x,hx,rfl⟩:=dc hd
   have hst:WA (l.take (i+1))=WA (l.take i)++lkT x:=by rw [List.take_add_one,hx,Option.toList_some,Qo];simp [WA]
   have hxm:=List.mem_of_getElem? hx
   have hih:=ih x (hmem x hxm) (by have:=hmem x hxm;omega)
   obtain ⟨kx,px,ax,yx,cx,ex⟩:=x
   simp only [cm,Fu] at hih ⊢
   refine iy ?_
   intro b5 hb5
   have n5r:b5≠r:=Zt hb5 (Zd gr)
   have n53:b5≠b3:=Zt hb5 (by rw [Zb h34];exact g3)
   have n54:b5≠b4:=Zt hb5 (by rw [Zb h4];exact g4)
   try simp only [go_sem,seval,U1,n54,Zb h4,g4']
   refine (hih _ _ (by rw [Za n53,Zb h34];exact g3) (by rw [Za n54,Zb h4];exact g4) (by rw [Za n5r];exact Zd gr)).mono ?_
   rintro x' σ' ⟨rfl,rfl⟩
   rw [← List.foldl_append,← hst,Zk n5r,Zw]
   refine iy ?_
   rw [show IntKind.i64.wrap ((i:Int)+1)=((i+1:Nat):Int) from Zp (by omega) (by omega)]
   exact .mk (i+1) (by omega) (by omega) ⟨.refl _,trivial⟩ (by repeat first | exact Zf.turn _ rfl | refine Zf.put rfl ?_) (.cons _ _)
  ·refine iy ?_
   rw [List.take_of_length_le (by omega)]
   exact gG
 ·have e1:=eq_false hk
  rw [if_neg hk]
  try simp only [go_sem,seval,U1,e1,decide_false]
  have ini:Sub (σ.set r (mkO ks)) σ:=by rw [Zs gr];exact .refl _
  refine hpc.use ?_
  try simp only [go_sem,seval,U1,cu]
  refine Zv (mu:=[]) (dr:=[]) [5,15,16,17,18,19,20,21,22] (fun i:Nat=>[(15,vi i)]) (fun i=>σ.set r (mkO ((WA (l.take i)).foldl VI ks))) (fun i=>i≤l.length) (fun i=>l.length-i) 0 (by kernel_rfl) (by omega) ⟨.refl _,trivial⟩ ini ?_
  intro i hi
  try simp only [go_sem,seval,U1,cu]
  refine ⟨fun h1=>⟨by omega,h1,fun d hd=>?_⟩,fun h1=>?_⟩
  ·rw [Int.toNat_natCast] at hd
   obtain ⟨x,hx,rfl⟩:=dc hd
   have hst:WA (l.take (i+1))=WA (l.take i)++lkT x:=by rw [List.take_add_one,hx,Option.toList_some,Qo];simp [WA]
   have hxm:=List.mem_of_getElem? hx
   have hih:=ih x (hmem x hxm) (by have:=hmem x hxm;omega)
   obtain ⟨kx,px,ax,yx,cx,ex⟩:=x
   simp only [cm,Fu] at hih ⊢
   refine iy ?_
   intro b5 hb5
   have n5r:b5≠r:=Zt hb5 (Zd gr)
   have n53:b5≠b3:=Zt hb5 (by rw [Zb h34];exact g3)
   have n54:b5≠b4:=Zt hb5 (by rw [Zb h4];exact g4)
   try simp only [go_sem,seval,U1,n54,Zb h4,g4']
   refine (hih _ _ (by rw [Za n53,Zb h34];exact g3) (by rw [Za n54,Zb h4];exact g4) (by rw [Za n5r];exact Zd gr)).mono ?_
   rintro x' σ' ⟨rfl,rfl⟩
   rw [← List.foldl_append,← hst,Zk n5r,Zw]
   refine iy ?_
   rw [show IntKind.i64.wrap ((i:Int)+1)=((i+1:Nat):Int) from Zp (by omega) (by omega)]
   exact .mk (i+1) (by omega) (by omega) ⟨.refl _,trivial⟩ (by repeat first | exact Zf.turn _ rfl | refine Zf.put rfl ?_) (.cons _ _)
  ·refine iy ?_
   rw [List.take_of_length_le (by omega)]
   exact gG
theorem Fs (t:Tr):(lkT t).length≤trN t:=by
 refine Xa (M:=fun t=>(lkT t).length≤trN t) (fun t ih=>?_) t
 have:∀ l:List Tr,(∀ x∈l,x∈ZH t)→(WA l).length≤trNs l:=by
  intro l
  induction l with
  | nil=>intro _;simp [WA]
  | cons a r ihr =>
    intro h
    have h1:=ih a (Yj (h a List.mem_cons_self))
    have h2:=ihr (fun x hx=>h x (List.mem_cons_of_mem _ hx))
    simp only [WA,List.length_append,trNs];omega
 have h1:=this _ (fun _ h=>h)
 have h2:=OD t
 obtain ⟨k,p,a,y,c,e⟩:=t
 rw [L6,List.length_append]
 split<;>simp<;>omega
theorem JC (t:Tr)(hB:trN t≤bigN):Pur Tryz.prog 40 [.agg t.emb] (.list .none 1 (Yz (Uv t))):=by
 intro σ
 refine Zj.nodup (by kernel_rfl) (fun hnd=>?_)
 have hsz:=GD t 4000 hB (by omega) (by omega)
 have hlk:=fun b3 b4 r h1 h2 σ=>Fq b3 b4 r h1 h2 t hB [] σ
 have hll:=Fs t
 have hdl:=Nm (lkT t)
 have hbig:bigN=1073741824:=rfl
 have hdd:(lkT t).foldl VI []=dd (lkT t):=rfl
 have hS:Uv t=if 4000<WD t 4000 then [] else Vv (dd (lkT t)):=rfl
 rw [hS]
 generalize WD t 4000=Z at *
 generalize lkT t=L at *
 obtain ⟨k,p,a,y,c,e⟩:=t
 simp only [cm] at hsz hlk ⊢
 refine Zc [] [] Tryz.func40 rfl (by kernel_rfl) ?_;rw [Tryz.ntmps40,Tryz.results40]
 try simp only [go_sem,seval,Ga]
 refine hsz.use ?_
 by_cases hz:4000<Z
 ·have e1:=eq_true hz
  rw [if_pos hz]
  try simp only [go_sem,seval,Ga,e1,decide_true]
  exact .mk (.nilA _ _ _) (.refl _) ⟨rfl,rfl⟩
 ·have e1:=eq_false hz
  rw [if_neg hz]
  try simp only [go_sem,seval,Ga,e1,decide_false]
  intro r hr b3 hb3 b4 hb4
  have n3r:b3≠r:=Ne.symm hb3.1
  have n43:b4≠b3:=Ne.symm hb4.1
  have n4r:b4≠r:=Ne.symm hb4.2.1
  refine (hlk b3 b4 r n3r n4r _ (by rw [Za n43,Zi]) (by rw [Zi];rfl) (by rw [Za n4r,Za n3r,Zi];rfl)).mono ?_
  rintro x' σ' ⟨rfl,rfl⟩
  rw [hdd,Zk n4r,Zk n3r,Z6]
  try simp only [go_sem,seval,Ga,n43,mkO]
  refine (RZ (dd L) (by omega) _ r (by rw [Za n4r,Za n3r,Zi])).mono ?_
  rintro x' σ' ⟨rfl,rfl⟩
  try simp only [go_sem,seval,Ga]
  exact .mk (.refl _) ((((Sub.refl _).skip _).skip _).skip _) ⟨rfl,rfl⟩
end Go.Vx
end
section
set_option maxRecDepth 100000
namespace Go.Vx
open Go.Proofs
theorem Pur.shift {P:Program}{k:FuncId}{args args':List AV}{v:AV}{σ σ1:Store}{K:ZO→Store→Prop}(h:Pur P k args' v)(h0:∀ w,Zo σ w→Zo σ1 w∧Ev σ w σ1 w)(hl:args.length=args'.length)
 (hs:∀ (i:Nat) (a a':AV),args[i]?=some a→args'[i]?=some a'→Y0 a σ a' σ1) (hk:K (.ret v) σ1):Zj P k args σ K:=by
 refine ⟨(h σ1).1,fun w vs hσ hv=>?_⟩
 have hv':Vs (live σ1) w args' vs.toList:=⟨by rw [← hl];exact hv.1,fun i a' x ha' hx=>by
  have hi:i<args.length:=by rw [hl];exact (List.getElem?_eq_some_iff.1 ha').1
  exact (hs i _ a' (List.getElem?_eq_getElem hi) ha' w x hσ (hv.2 i _ x (List.getElem?_eq_getElem hi) hx)).1⟩
 refine ((h σ1).2 w vs (h0 w hσ).1 hv').mono fun e w' he=>?_
 cases e with
 | returned v =>
   obtain ⟨av,σ',⟨h1,rfl⟩,b,c,d⟩:=he
   injection h1 with h1;subst h1
   exact ⟨_,σ',hk,b,c,(h0 w hσ).2.trans d⟩
 | panicked c=>obtain ⟨pv,σ',_,⟨h1,_⟩,_⟩:=he;cases h1
 | outgrown=>exact he.elim
theorem Y0.agg {cs cs':List AV}{σ σ':Store}(h0:∀ w,Zo σ w→Zo σ' w∧Ev σ w σ' w)(hl:cs.length=cs'.length)(h:∀ (i:Nat) (c c':AV),cs[i]?=some c→cs'[i]?=some c'→Y0 c σ c' σ'):Y0 (.agg cs) σ (.agg cs') σ':=by
 intro w x hσ hv
 refine ⟨?_,h0 w hσ⟩
 cases hv with
 | agg _ vs hvl hv =>
   refine .agg cs' vs (by omega) (fun i c v hc hvi=>?_)
   have hi:i<cs.length:=by have:=(List.getElem?_eq_some_iff.1 hc).1;omega
   exact (h i _ c (List.getElem?_eq_getElem hi) hc w v hσ (hv i _ v (List.getElem?_eq_getElem hi) hvi)).1
theorem HW {P:Program}{sT xT el by_ sz s s2:Nat}{z:Value}{σ:Store}{es:List (List AV)}{rt:Rt}{K:AV→Store→Prop}(hs2:s2=sz∨es=[])(hes:∀ e∈es,e.length=sz)(h1:ZA P sT=some el)(h2:Zh P el=some sz)(h3:Zl P el=some z)(h4:ZQ P el=some by_)
 (h5:(ZA P xT).isSome=true) (h6:z.cells.size=sz) (h7:by_≤512) (he1:es.flatten.all AV.one=true) (hl:es.length≤137438953472) (hne:es≠[])
 (kk:∀ (b cap:Nat) (rest:List AV),Zx σ b→es.length≤cap→K (.val (.slice (some ⟨b,0,none⟩) es.length cap)) ((b,.cells (es.flatten++rest))::σ)):Ua P sT xT (.list .full s []) (.list rt s2 es) σ K:=by
 unfold Ua
 rw [h1]
 simp only [h2,h3,h4]
 refine ⟨h5,h6,h7,hs2,hes,?_⟩
 refine ⟨by simp only [lim];simpa using hl,by simp,by simp,fun h=>absurd h hne,fun _ b nc zs hb hnc hzs=>?_⟩
 have:=kk b nc zs hb (by simpa using hnc)
 simpa using this
theorem dW (l:List Tm):∀ e∈cH l,e.length=4:=fun e he=>by rw [dg] at he;obtain ⟨⟨k,n,s,a⟩,_,rfl⟩:=List.mem_map.1 he;rfl
theorem dV (l:List Tm):(cH l).flatten.all AV.one=true:=by
 rw [List.all_eq_true];intro x hx;obtain ⟨e,he,hx⟩:=List.mem_flatten.1 hx;rw [dg] at he;obtain ⟨⟨k,n,s,a⟩,_,rfl⟩:=List.mem_map.1 he
 simp [Tm.emb] at hx;rcases hx with rfl | rfl | rfl | rfl<;>rfl
theorem bh {sz n:Nat}{es:List (List AV)}{rest:List AV}(h:∀ e∈es,e.length=sz)(hn:n=es.length):(es.flatten++rest).take (n * sz)=es.flatten:=by
 have:=Px h
 rw [hn,← this,List.take_left]
theorem LD (es:List (List AV))(sz:Nat)(hsz:∀ e∈es,e.length=sz)(rest:List AV)(a:Nat)(e':List AV)(he':e'.length=sz)(ha:a<es.length):Yu (es.flatten++rest) (a * sz) e'=(es.set a e').flatten++rest:=by
 have hln:(es.take a).flatten.length=a * sz:=by rw [Px (fun e he=>hsz e (List.mem_of_mem_take he)),List.length_take,Nat.min_eq_left (by omega)]
 have h2:es[a].length=sz:=hsz _ (List.getElem_mem ha)
 have hsp:es=es.take a++es[a]::es.drop (a+1):=by rw [List.getElem_cons_drop,List.take_append_drop]
 have hset:es.set a e'=es.take a++e'::es.drop (a+1):=by rw [List.set_eq_take_append_cons_drop,if_pos ha]
 rw [hset]
 conv=>lhs;rw [hsp]
 rw [List.flatten_append,List.flatten_append,List.flatten_cons,List.flatten_cons,← hln]
 unfold Yu
 generalize (es.take a).flatten=A at *
 generalize (es.drop (a+1)).flatten=B
 generalize es[a]=C at *
 have:A.length+e'.length=A.length+C.length:=by omega
 rw [this,List.append_assoc,List.take_left,← List.length_append,show A++(C++B++rest)=(A++C)++(B++rest) by simp,List.drop_left]
 simp
end Go.Vx
end
