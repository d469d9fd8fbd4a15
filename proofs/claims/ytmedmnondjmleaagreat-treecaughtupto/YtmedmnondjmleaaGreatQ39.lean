/- Part Q39 of the proof of treeCaughtProved: the walk of the program on abstract values, and the plain law. -/
import Derived.Test.YtmedmnondjmleaaGreatQ31
import Derived.Test.YtmedmnondjmleaaGreatQ32
import Derived.Test.YtmedmnondjmleaaGreatQ37
set_option linter.unusedVariables false
set_option linter.unusedSimpArgs false
section
namespace Go.Vx
def fitsAt (args:List Tm)(r:Row)(j:Nat):Bool:=match args[j]? with
  | some t=>fitsB (r.classes.getD j anyC) (classS t)
  | none=>true
def fitsAll (args:List Tm)(r:Row):Bool:=(List.range args.length).all (fitsAt args r)
theorem fitsAll_iff (args:List Tm)(r:Row):fitsAll args r=true↔∀ j,fitsAt args r j=true:=by
  unfold fitsAll
  rw [List.all_eq_true]
  constructor
  · intro h j
    by_cases hj:j<args.length
    · exact h j (List.mem_range.2 hj)
    · unfold fitsAt;rw [List.getElem?_eq_none (by omega)]
  · intro h j _;exact h j
theorem fits_any (c:Cls):fitsB anyC c=true:=by simp [fitsB,anyC]
theorem fits_argAny (o c:Cls)(h:c.any=true):fitsB o c=true:=by simp [fitsB,h]
theorem fits_ownAny (o c:Cls)(h:o.any=true):fitsB o c=true:=by simp [fitsB,h]
theorem setAny_getD (r:Row)(a:Int)(j:Nat):(setAny a r).classes.getD j anyC=if j=a.toNat then anyC else r.classes.getD j anyC:=by
  unfold setAny
  simp only [List.getD_eq_getElem?_getD,List.getElem?_set]
  split
  · rename_i h;subst h
    rw [if_pos rfl]
    split<;>rfl
  · rename_i h;rw [if_neg (fun e=>h e.symm)]
theorem fitsAt_set (args:List Tm)(r:Row)(a:Int)(j:Nat):fitsAt args (setAny a r) j=(decide (j=a.toNat) || fitsAt args r j):=by
  unfold fitsAt
  rw [setAny_getD]
  cases h:args[j]? with
  | none=>simp
  | some t =>
    by_cases hj:j=a.toNat
    · simp [hj,fits_any]
    · simp [hj]
theorem fitsAll_set (args:List Tm)(r:Row)(a:Int):fitsAll args r=(fitsAt args r a.toNat&&fitsAll args (setAny a r)):=by
  rw [Bool.eq_iff_iff,Bool.and_eq_true,fitsAll_iff,fitsAll_iff]
  constructor
  · intro h;exact ⟨h _,fun j=>by rw [fitsAt_set,h j,Bool.or_true]⟩
  · rintro ⟨h1,h2⟩ j
    have:=h2 j
    rw [fitsAt_set,Bool.or_eq_true,decide_eq_true_eq] at this
    rcases this with h | h
    · rw [h];exact h1
    · exact h
/-- What is left at an argument: the same picks fit. -/
theorem of_fits (args:List Tm)(l:List Row)(a:Int)(t:Tm)(ha:args[a.toNat]?=some t)(c:Cls)(hc:∀ r∈l,fitsB (clsOf r a) c=fitsB (clsOf r a) (classS t)) :
    ((ofS l a c).filter (fitsAll args)).map Row.pick=(l.filter (fitsAll args)).map Row.pick:=by
  induction l with
  | nil=>rfl
  | cons r l ih =>
    have ih:=ih (fun x hx=>hc x (List.mem_cons_of_mem _ hx))
    have h0:=hc r List.mem_cons_self
    have hat:fitsAt args r a.toNat=fitsB (clsOf r a) c:=by unfold fitsAt;rw [ha,h0];rfl
    have hall:=fitsAll_set args r a
    rw [hat] at hall
    unfold ofS at ih ⊢
    cases hf:fitsB (clsOf r a) c with
    | true =>
      rw [hf,Bool.true_and] at hall
      rw [List.filter_cons_of_pos (by simpa using hf),List.map_cons]
      cases h2:fitsAll args (setAny a r) with
      | true=>rw [List.filter_cons_of_pos h2,List.filter_cons_of_pos (by rw [hall];exact h2),List.map_cons,List.map_cons,ih];rfl
      | false=>rw [List.filter_cons_of_neg (by simp [h2]),List.filter_cons_of_neg (by rw [hall,h2];simp),ih]
    | false =>
      rw [hf,Bool.false_and] at hall
      rw [List.filter_cons_of_neg (by simp [hf]),List.filter_cons_of_neg (by rw [hall];simp),ih]
theorem names_mem {l:List Row}{r:Row}{a:Int}(hr:r∈l)(hn:(clsOf r a).any=false):(clsOf r a).name∈namesS l a.toNat:=by
  unfold namesS sortS
  rw [(sortB_perm _ _).mem_iff,dd_mem,List.mem_map]
  refine ⟨clsOf r a,List.mem_filter.2 ⟨List.mem_map.2 ⟨r,hr,rfl⟩,?_⟩,rfl⟩
  simp only [Bool.not_eq_true',decide_eq_false_iff_not]
  intro e;rw [e] at hn;simp [anyC] at hn
theorem names_of {l:List Row}{a:Nat}{s:Str}(h:s∈namesS l a):∃ r∈l,∃ c,r.classes.getD a anyC=c∧c≠anyC∧c.name=s:=by
  unfold namesS sortS at h
  rw [(sortB_perm _ _).mem_iff,dd_mem,List.mem_map] at h
  obtain ⟨c,hc,e⟩:=h
  rw [List.mem_filter] at hc
  obtain ⟨h1,h2⟩:=hc
  obtain ⟨r,hr,e2⟩:=List.mem_map.1 h1
  exact ⟨r,hr,c,e2,by simpa using h2,e⟩
/-- Else has what a name has that no row has. -/
theorem fits_else {l:List Row}{a:Int}{s:Str}(hs:s ∉ namesS l a.toNat)(he:emptyS ∉ namesS l a.toNat){r:Row}(hr:r∈l):fitsB (clsOf r a) ⟨false,emptyS⟩=fitsB (clsOf r a) ⟨false,s⟩:=by
  cases h:(clsOf r a).any with
  | true=>rw [fits_ownAny _ _ h,fits_ownAny _ _ h]
  | false =>
    have hm:=names_mem hr h
    have h1:(clsOf r a).name≠s:=fun e=>hs (e ▸ hm)
    have h2:(clsOf r a).name≠emptyS:=fun e=>he (e ▸ hm)
    obtain ⟨x,hx⟩:∃ x,x=clsOf r a:=⟨_,rfl⟩
    rw [← hx] at h h1 h2 ⊢
    obtain ⟨x1,x2⟩:=x
    simp only at h h1 h2
    simp [fitsB,h,h1,h2]
theorem selCs_find (s:Str)(args:List Tm)(d:List Pick):∀ c:List Cs,(∃ T,Cs.mk s T∈c∧selCs s args d c=selS T args)∨(s ∉ c.map Cs.name∧selCs s args d c=d)
  | []=>.inr ⟨by simp,by simp only [selCs]⟩
  | .mk m T::r=>by
    by_cases h:m=s
    · subst h;exact .inl ⟨T,List.mem_cons_self,by simp only [selCs,Cs.name,if_true,selC]⟩
    · have e:selCs s args d (.mk m T::r)=selCs s args d r:=by simp only [selCs,Cs.name];exact if_neg h
      rw [e]
      rcases selCs_find s args d r with ⟨T',h1,h2⟩ | ⟨h1,h2⟩
      · exact .inl ⟨T',List.mem_cons_of_mem _ h1,h2⟩
      · exact .inr ⟨by simp only [List.map_cons,List.mem_cons,Cs.name,not_or];exact ⟨fun e=>h e.symm,h1⟩,h2⟩
theorem right_case {a:Int}{l:List Row}{s:Str}{T:Tr}:∀ {c:List Cs},rightCs a l c=true→Cs.mk s T∈c→rightS T (ofS l a ⟨false,s⟩)=true
  | [],_,h=>by simp at h
  | .mk m U::r,hr,h=>by
    simp only [rightCs,rightC,Bool.and_eq_true] at hr
    rcases List.mem_cons.1 h with e | h
    · injection e with e1 e2;subst e1;subst e2;exact hr.1
    · exact right_case hr.2 h
theorem frmTs_all {n:Int}:∀ {l:List Tr} {q:Bool×ML},(frmTs n l q).1=true→q.1=true∧∀ x∈l,∃ q',(frm n x q').1=true
  | [],q,h=>⟨by simpa only [frmTs] using h,by simp⟩
  | t::r,q,h=>by
    simp only [frmTs] at h
    split at h
    · rename_i hq
      obtain ⟨h1,h2⟩:=frmTs_all h
      exact ⟨hq,fun x hx=>by
        rcases List.mem_cons.1 hx with e | hx
        · subst e;exact ⟨_,h1⟩
        · exact h2 x hx⟩
    · rename_i hq;exact absurd h hq
theorem cmpS_empty (x:Str):¬ cmpS x emptyS<0:=by
  rw [cmpS_lt]
  have:emptyS.data.toList=[]:=by kernel_rfl
  rw [this]
  exact List.not_lt_nil _
theorem cases_named {c:List Cs}(h:badC c=false):emptyS ∉ c.map Cs.name:=by
  cases c with
  | nil=>simp [badC] at h
  | cons c0 r =>
    simp only [badC,Bool.or_eq_false_iff,decide_eq_false_iff_not,Bool.not_eq_false'] at h
    obtain ⟨h1,h2⟩:=h
    rw [incB_get] at h2
    intro hm
    obtain ⟨x,hx,e⟩:=List.mem_map.1 hm
    obtain ⟨i,hi⟩:=List.getElem?_of_mem hx
    cases i with
    | zero=>simp at hi;subst hi;exact h1 e
    | succ i =>
      have hlt:=(List.getElem?_eq_some_iff.1 hi).1
      obtain ⟨y,hy⟩:∃ y,(c0::r)[i]?=some y:=⟨_,List.getElem?_eq_getElem (by omega)⟩
      have:=h2 i y x hy hi
      unfold cmpC at this
      rw [e] at this
      exact cmpS_empty _ this
/-- A right,formed tree selects the clauses that fit. -/
theorem sel_right (args:List Tm):∀ (t:Tr) (l:List Row) (q:ML),(frm (args.length:Nat) t q).1=true→rightS t l=true→selS t args=(l.filter (fitsAll args)).map Row.pick:=by
  refine trN_ind (M:=fun t=>∀ (l:List Row) (q:ML),(frm (args.length:Nat) t q).1=true→rightS t l=true→selS t args=(l.filter (fitsAll args)).map Row.pick) (fun t ih l q hf hr=>?_)
  obtain ⟨k,p,a,y,c,e⟩:=t
  by_cases h1:k=1
  · subst h1
    simp only [rightS,if_true,Bool.and_eq_true,decide_eq_true_eq,List.all_eq_true] at hr
    simp only [selS]
    rw [if_neg (by decide),hr.1,List.filter_eq_self.2]
    intro r hr'
    rw [fitsAll_iff]
    intro j
    unfold fitsAt
    split
    · rename_i t _
      refine fits_ownAny _ _ ?_
      rw [List.getD_eq_getElem?_getD]
      cases hc:r.classes[j]? with
      | none=>rfl
      | some x=>exact hr.2 r hr' x (List.mem_of_getElem? hc)
    · rfl
  · by_cases h2:k=2
    · subst h2
      rw [frm_two] at hf
      split at hf
      · simp at hf
      rename_i hbad
      simp only [Bool.or_eq_true,not_or,Bool.not_eq_true] at hbad
      obtain ⟨hb1,hb2⟩:=hbad
      simp only [badN,Bool.or_eq_false_iff,decide_eq_false_iff_not,Decidable.not_not] at hb1
      obtain ⟨⟨⟨⟨⟨⟨g1,g2⟩,_⟩,gy⟩,ge⟩,_⟩,_⟩:=hb1
      obtain ⟨y0,rfl⟩:=List.length_eq_one_iff.1 gy
      obtain ⟨e0,rfl⟩:=List.length_eq_one_iff.1 ge
      obtain ⟨_,hkids⟩:=frmTs_all hf
      simp only [rightS,if_neg h1,rightHd,Bool.and_eq_true,List.all_eq_true,decide_eq_true_eq] at hr
      obtain ⟨⟨⟨r1,r2⟩,r3⟩,r4⟩:=hr
      obtain ⟨ta,hta⟩:∃ ta,args[a.toNat]?=some ta:=⟨_,List.getElem?_eq_getElem (by omega)⟩
      have hne:=cases_named hb2
      have hen:emptyS ∉ namesS l a.toNat:=fun h=>hne (r1 _ h)
      have kid:∀ x,x∈[y0]++[e0]++c.map Cs.tree→∀ l',rightS x l'=true→selS x args=(l'.filter (fitsAll args)).map Row.pick:=fun x hx l' hl'=>by
        obtain ⟨q',hq'⟩:=hkids x hx
        exact ih x (parts_lt (t:=.mk 2 p a [y0] c [e0]) hx) l' q' hq' hl'
      simp only [selS,if_true,hta,selHd]
      cases hany:(classS ta).any with
      | true =>
        rw [if_pos rfl,kid y0 (by simp) _ r2]
        exact of_fits args l a ta hta anyC (fun r _=>by rw [fits_argAny _ _ rfl,fits_argAny _ _ hany])
      | false =>
        rw [if_neg (by decide)]
        have hcl:classS ta=⟨false,(classS ta).name⟩:=by rw [← hany]
        rcases selCs_find (classS ta).name args (selS e0 args) c with ⟨T,m1,m2⟩ | ⟨m1,m2⟩
        · rw [m2,kid T (by simp only [List.mem_append,List.mem_map];exact .inr ⟨_,m1,rfl⟩) _ (right_case r4 m1)]
          exact of_fits args l a ta hta _ (fun r _=>by rw [← hcl])
        · rw [m2,kid e0 (by simp) _ r3]
          exact of_fits args l a ta hta _ (fun r hr=>by rw [fits_else (fun h=>m1 (r1 _ h)) hen hr,← hcl])
    · simp only [frm,if_neg h1,if_neg h2] at hf;cases hf
def Named (l:List Row):Prop:=∀ r∈l,∀ c∈r.classes,c.any=false→c.name≠emptyS
def AnyE (l:List Row):Prop:=∀ r∈l,∀ c∈r.classes,c.any=true→c=anyC
theorem named_names {l:List Row}(h:Named l)(h2:AnyE l)(a:Nat):emptyS ∉ namesS l a:=by
  intro hm
  obtain ⟨r,hr,c,hc,hn,he⟩:=names_of hm
  rw [List.getD_eq_getElem?_getD] at hc
  cases hx:r.classes[a]? with
  | none=>rw [hx] at hc;exact hn hc.symm
  | some x =>
    rw [hx] at hc
    have hxm:=List.mem_of_getElem? hx
    simp only [Option.getD_some] at hc
    subst hc
    cases ha:x.any with
    | true=>exact hn (h2 r hr x hxm ha)
    | false=>exact h r hr x hxm ha he
theorem filter_fits (args:List Tm)(l:List Row)(a:Nat)(t:Tm)(ha:args[a]?=some t)(c:Cls)(hc:∀ r∈l,fitsB (clsOf r a) c=fitsB (clsOf r a) (classS t)) :
    (l.filter fun x=>fitsB (clsOf x a) c).filter (fitsAll args)=l.filter (fitsAll args):=by
  rw [List.filter_filter]
  refine List.filter_congr (fun r hr=>?_)
  cases h:fitsAll args r with
  | false=>simp
  | true =>
    rw [fitsAll_iff] at h
    have:=h a
    unfold fitsAt at this
    rw [ha] at this
    simp only [Bool.true_and]
    rw [hc r hr]
    simpa [clsOf] using this
theorem caseB_sel {B:List Row→Int→Option (Tr×Int)}{l:List Row}{a:Int}{s:Str}{args:List Tm}{d:List Pick}:∀ {ns:List Str} {n:Int} {cs:List Cs} {m:Int},caseB B l a ns n=some (cs,m) →
    (s∈ns→∃ T n1 n2,B (l.filter fun x=>fitsB (clsOf x a) ⟨false,s⟩) n1=some (T,n2)∧selCs s args d cs=selS T args)∧(s ∉ ns→selCs s args d cs=d)
  | [],n,cs,m,h=>by
    simp only [caseB,Option.some.injEq,Prod.mk.injEq] at h
    obtain ⟨rfl,_⟩:=h
    exact ⟨by simp,fun _=>by simp only [selCs]⟩
  | u::r,n,cs,m,h=>by
    simp only [caseB] at h
    cases hB:B (l.filter fun x=>fitsB (clsOf x a) ⟨false,u⟩) n with
    | none=>rw [hB] at h;cases h
    | some p =>
      obtain ⟨T,n1⟩:=p
      rw [hB] at h
      simp only at h
      cases hc:caseB B l a r n1 with
      | none=>rw [hc] at h;cases h
      | some p2 =>
        obtain ⟨cs',n2⟩:=p2
        rw [hc] at h
        simp only [Option.some.injEq,Prod.mk.injEq] at h
        obtain ⟨rfl,_⟩:=h
        obtain ⟨i1,i2⟩:=caseB_sel (s:=s) (args:=args) (d:=d) hc
        by_cases hu:u=s
        · subst hu
          exact ⟨fun _=>⟨T,n,n1,hB,by simp only [selCs,Cs.name,if_true,selC]⟩,fun hn=>absurd List.mem_cons_self hn⟩
        · have e:selCs s args d (.mk u T::cs')=selCs s args d cs':=by simp only [selCs,Cs.name];exact if_neg hu
          rw [e]
          exact ⟨fun hm=>i1 ((List.mem_cons.1 hm).resolve_left (fun e=>hu e.symm)),fun hn=>i2 (fun h=>hn (List.mem_cons_of_mem _ h))⟩
/-- A built tree selects the clauses that fit. -/
theorem sel_loop (args:List Tm):∀ (k:Nat) (l:List Row) (left:Int) (t:Tr) (m:Int),k≤args.length→loopB args.length k l left=some (t,m)→Named l→AnyE l →
    (∀ r∈l,∀ j,j<args.length-k→fitsAt args r j=true)→selS t args=(l.filter (fitsAll args)).map Row.pick
  | 0,l,left,t,m,hk,h,hn,hy,hf=>by
    simp only [loopB,Option.some.injEq,Prod.mk.injEq] at h
    obtain ⟨rfl,_⟩:=h
    simp only [selS]
    rw [if_neg (by decide),List.filter_eq_self.2]
    intro r hr
    rw [fitsAll_iff]
    intro j
    by_cases hj:j<args.length
    · exact hf r hr j (by omega)
    · unfold fitsAt;rw [List.getElem?_eq_none (by omega)]
  | k+1,l,left,t,m,hk,h,hn,hy,hf=>by
    simp only [loopB] at h
    obtain ⟨a,ha⟩:∃ a,a=args.length-(k+1):=⟨_,rfl⟩
    rw [← ha] at h hf
    have hak:args.length-k=a+1:=by omega
    obtain ⟨ta,hta⟩:∃ ta,args[a]?=some ta:=⟨_,List.getElem?_eq_getElem (by omega)⟩
    have sub:∀ (P:Row→Bool),(∀ r∈l,P r=true→fitsAt args r a=true)→∀ (left':Int) (t':Tr) (m':Int),loopB args.length k (l.filter P) left'=some (t',m') →
        selS t' args=((l.filter P).filter (fitsAll args)).map Row.pick:=fun P hP left' t' m' h' =>
      sel_loop args k (l.filter P) left' t' m' (by omega) h' (fun r hr=>hn r (List.mem_filter.1 hr).1) (fun r hr=>hy r (List.mem_filter.1 hr).1) (fun r hr j hj=>by
        obtain ⟨h1,h2⟩:=List.mem_filter.1 hr
        rw [hak] at hj
        by_cases hja:j=a
        · subst hja;exact hP r h1 h2
        · exact hf r h1 j (by omega))
    split at h
    · rename_i hnm
      refine sel_loop args k l left t m (by omega) h hn hy (fun r hr j hj=>?_)
      rw [hak] at hj
      by_cases hja:j=a
      · subst hja
        unfold fitsAt;rw [hta]
        refine fits_ownAny _ _ ?_
        cases hx:(r.classes.getD j anyC).any with
        | true=>rfl
        | false =>
          have:=names_mem (a:=(j:Int)) hr (by simpa [clsOf] using hx)
          rw [Int.toNat_natCast,hnm] at this
          simp at this
      · exact hf r hr j (by omega)
    · have hemp:=named_names hn hy a
      unfold nodeT at h
      obtain ⟨B,hB⟩:∃ B,B=(fun (l:List Row) (left:Int)=>if left-1<0 then none else loopB args.length k l (left-1)):=⟨_,rfl⟩
      rw [← hB] at h
      have Bsub:∀ (P:Row→Bool),(∀ r∈l,P r=true→fitsAt args r a=true)→∀ (left':Int) (t':Tr) (m':Int),B (l.filter P) left'=some (t',m') →
          selS t' args=((l.filter P).filter (fitsAll args)).map Row.pick:=fun P hP left' t' m' h'=>by
        rw [hB] at h'
        simp only at h'
        split at h'
        · cases h'
        · exact sub P hP _ _ _ h'
      cases h1:B (l.filter fun x=>fitsB (clsOf x a) anyC) left with
      | none=>rw [h1] at h;cases h
      | some p1 =>
        obtain ⟨tA,n1⟩:=p1
        rw [h1] at h
        simp only at h
        cases h2:caseB B l a (namesS l a) n1 with
        | none=>rw [h2] at h;cases h
        | some p2 =>
          obtain ⟨cs,n2⟩:=p2
          rw [h2] at h
          simp only at h
          cases h3:B (l.filter fun x=>fitsB (clsOf x a) ⟨false,emptyS⟩) n2 with
          | none=>rw [h3] at h;cases h
          | some p3 =>
            obtain ⟨tE,n3⟩:=p3
            rw [h3] at h
            simp only [Option.some.injEq,Prod.mk.injEq] at h
            obtain ⟨rfl,_⟩:=h
            have hat:∀ r:Row,fitsAt args r a=fitsB (clsOf r a) (classS ta):=fun r=>by unfold fitsAt clsOf;rw [hta,Int.toNat_natCast]
            simp only [selS,if_true,Int.toNat_natCast,hta,selHd]
            cases hany:(classS ta).any with
            | true =>
              rw [if_pos rfl,Bsub _ (fun r _ _=>by rw [hat,fits_argAny _ _ hany]) _ _ _ h1,filter_fits args l a ta hta anyC (fun r _=>by rw [fits_argAny _ _ rfl,fits_argAny _ _ hany])]
            | false =>
              rw [if_neg (by decide)]
              have hcl:classS ta=⟨false,(classS ta).name⟩:=by rw [← hany]
              obtain ⟨s1,s2⟩:=caseB_sel (s:=(classS ta).name) (args:=args) (d:=selS tE args) h2
              by_cases hs:(classS ta).name∈namesS l a
              · obtain ⟨T,m1,m2,hT,e⟩:=s1 hs
                rw [e,Bsub _ (fun r _ hp=>by rw [hat,hcl];exact hp) _ _ _ hT,filter_fits args l a ta hta _ (fun r _=>by rw [← hcl])]
              · have hel:∀ r∈l,fitsB (clsOf r (a:Int)) ⟨false,emptyS⟩=fitsB (clsOf r (a:Int)) (classS ta):=fun r hr=>by
                  rw [fits_else (s:=(classS ta).name) (by rw [Int.toNat_natCast];exact hs) (by rw [Int.toNat_natCast];exact hemp) hr,← hcl]
                rw [s2 hs,Bsub _ (fun r hr hp=>by rw [hat,← hel r hr];exact hp) _ _ _ h3,filter_fits args l a ta hta _ hel]
end Go.Vx
end
section
namespace Go.Vx
open Go.Proofs
theorem sizeTs_exact {l:List Tr}{m:Int}(ih:∀ x∈l,∀ m:Int,(trN x:Int)≤m→sizeS x m=trN x):∀ n:Int,n+trNs l≤m→sizeTs l m n=n+trNs l:=by
  induction l with
  | nil=>intro n h;simp only [sizeTs,trNs];omega
  | cons a r ihr =>
    intro n h
    simp only [trNs] at h
    have ha:=ih a List.mem_cons_self (m-n) (by omega)
    simp only [sizeTs,trNs]
    rw [if_neg (by omega),ha,ihr (fun x hx=>ih x (List.mem_cons_of_mem _ hx)) _ (by omega)]
    omega
theorem sizeS_exact (t:Tr):∀ m:Int,(trN t:Int)≤m→sizeS t m=trN t:=by
  refine trN_ind (M:=fun t=>∀ m:Int,(trN t:Int)≤m→sizeS t m=trN t) (fun t ih m h=>?_) t
  rw [trN_eq] at h ⊢
  rw [sizeS_eq,sizeTs_exact (fun x hx=>ih x (parts_lt hx)) 1 (by omega)]
  omega
theorem caseB_count {B:List Row→Int→Option (Tr×Int)}{l:List Row}{a:Int}(hB:∀ l n t m,0≤n→B l n=some (t,m)→0≤m∧n-m=trN t):∀ {ns:List Str} {n:Int} {cs:List Cs} {m:Int},0≤n→caseB B l a ns n=some (cs,m)→0≤m∧n-m=csN cs
  | [],n,cs,m,hn,h=>by
    simp only [caseB,Option.some.injEq,Prod.mk.injEq] at h
    obtain ⟨rfl,rfl⟩:=h
    simp only [csN];omega
  | u::r,n,cs,m,hn,h=>by
    simp only [caseB] at h
    cases hb:B (l.filter fun x=>fitsB (clsOf x a) ⟨false,u⟩) n with
    | none=>rw [hb] at h;cases h
    | some p =>
      obtain ⟨T,n1⟩:=p
      rw [hb] at h
      simp only at h
      cases hc:caseB B l a r n1 with
      | none=>rw [hc] at h;cases h
      | some p2 =>
        obtain ⟨cs',n2⟩:=p2
        rw [hc] at h
        simp only [Option.some.injEq,Prod.mk.injEq] at h
        obtain ⟨rfl,rfl⟩:=h
        obtain ⟨b1,b2⟩:=hB _ _ _ _ hn hb
        obtain ⟨c1,c2⟩:=caseB_count hB b1 hc
        simp only [csN,cs1N];omega
theorem loop_count (n:Nat):∀ (k:Nat) (l:List Row) (left:Int) (t:Tr) (m:Int),0≤left→loopB n k l left=some (t,m)→0≤m∧left-m=trN t-1
  | 0,l,left,t,m,hl,h=>by
    simp only [loopB,Option.some.injEq,Prod.mk.injEq] at h
    obtain ⟨rfl,rfl⟩:=h
    simp only [trN,trNs,csN];omega
  | k+1,l,left,t,m,hl,h=>by
    simp only [loopB] at h
    split at h
    · exact loop_count n k l left t m hl h
    · unfold nodeT at h
      obtain ⟨B,hB⟩:∃ B,B=(fun (l:List Row) (left:Int)=>if left-1<0 then none else loopB n k l (left-1)):=⟨_,rfl⟩
      rw [← hB] at h
      have hb:∀ l n t m,0≤n→B l n=some (t,m)→0≤m∧n-m=trN t:=fun l n' t m hn h'=>by
        rw [hB] at h'
        simp only at h'
        split at h'
        · cases h'
        · have:=loop_count n k l (n'-1) t m (by omega) h'
          omega
      generalize (((n-(k+1):Nat):Int))=a at h
      cases h1:B (l.filter fun x=>fitsB (clsOf x a) anyC) left with
      | none=>rw [h1] at h;cases h
      | some p1 =>
        obtain ⟨tA,n1⟩:=p1
        rw [h1] at h
        simp only at h
        cases h2:caseB B l a (namesS l (n-(k+1))) n1 with
        | none=>rw [h2] at h;cases h
        | some p2 =>
          obtain ⟨cs,n2⟩:=p2
          rw [h2] at h
          simp only at h
          cases h3:B (l.filter fun x=>fitsB (clsOf x a) ⟨false,emptyS⟩) n2 with
          | none=>rw [h3] at h;cases h
          | some p3 =>
            obtain ⟨tE,n3⟩:=p3
            rw [h3] at h
            simp only [Option.some.injEq,Prod.mk.injEq] at h
            obtain ⟨rfl,rfl⟩:=h
            obtain ⟨a1,a2⟩:=hb _ _ _ _ hl h1
            obtain ⟨b1,b2⟩:=caseB_count hb a1 h2
            obtain ⟨c1,c2⟩:=hb _ _ _ _ b1 h3
            simp only [trN,trNs];omega
theorem seen_put (q:ML)(x y:Int)(b:Bool):seenB (putB q x b) y=if y=x then b else seenB q y:=by
  unfold seenB putB
  simp only [look_upd]
  by_cases h:y=x<;>simp [h]
theorem inc_of {l:List Pick}(h:l.Pairwise (fun x y=>cmpP x y<0)):incB cmpP l=true:=by
  rw [incB_get]
  intro i a b ha hb
  have h1:=List.getElem?_eq_some_iff.1 ha
  have h2:=List.getElem?_eq_some_iff.1 hb
  obtain ⟨h1,e1⟩:=h1
  obtain ⟨h2,e2⟩:=h2
  have:=(List.pairwise_iff_getElem.1 h) i (i+1) h1 h2 (by omega)
  rw [e1,e2] at this;exact this
theorem names_sorted (l:List Row)(a:Nat):(namesS l a).Pairwise (fun x y=>cmpS x y<0):=by
  unfold namesS sortS
  have h1:=sortB_sorted swo_str (dd (((clsAt l a).filter fun c=>!decide (c=anyC)).map Cls.name))
  have h2:(sortB (ltOf cmpS) (dd (((clsAt l a).filter fun c=>!decide (c=anyC)).map Cls.name))).Nodup:=(sortB_perm _ _).nodup_iff.2 (dd_nodup _)
  refine (h1.and h2).imp (fun {x y} h=>?_)
  cases hx:ltOf cmpS x y with
  | true=>simpa [ltOf] using hx
  | false=>exact absurd (ltS_anti x y hx h.1) h.2
theorem caseB_names {B:List Row→Int→Option (Tr×Int)}{l:List Row}{a:Int}:∀ {ns:List Str} {n:Int} {cs:List Cs} {m:Int},caseB B l a ns n=some (cs,m) →
    cs.map Cs.name=ns∧∀ c∈cs,∃ s n1 n2,B (l.filter fun x=>fitsB (clsOf x a) ⟨false,s⟩) n1=some (c.tree,n2)
  | [],n,cs,m,h=>by
    simp only [caseB,Option.some.injEq,Prod.mk.injEq] at h
    obtain ⟨rfl,_⟩:=h
    exact ⟨rfl,by simp⟩
  | u::r,n,cs,m,h=>by
    simp only [caseB] at h
    cases hb:B (l.filter fun x=>fitsB (clsOf x a) ⟨false,u⟩) n with
    | none=>rw [hb] at h;cases h
    | some p =>
      obtain ⟨T,n1⟩:=p
      rw [hb] at h
      simp only at h
      cases hc:caseB B l a r n1 with
      | none=>rw [hc] at h;cases h
      | some p2 =>
        obtain ⟨cs',n2⟩:=p2
        rw [hc] at h
        simp only [Option.some.injEq,Prod.mk.injEq] at h
        obtain ⟨rfl,_⟩:=h
        obtain ⟨i1,i2⟩:=caseB_names hc
        refine ⟨by simp only [List.map_cons,Cs.name,i1],fun c hcm=>?_⟩
        rcases List.mem_cons.1 hcm with e | hcm
        · subst e;exact ⟨u,n,n1,hb⟩
        · exact i2 c hcm
theorem frmTs_ok {n:Int}{from':Int}:∀ {l:List Tr} {q:ML},(∀ x∈l,∀ q:ML,(∀ y,from'≤y→seenB q y=false)→(frm n x q).1=true∧∀ y,seenB (frm n x q).2 y=seenB q y) →
    (∀ y,from'≤y→seenB q y=false)→(frmTs n l (true,q)).1=true∧∀ y,seenB (frmTs n l (true,q)).2 y=seenB q y
  | [],q,_,_=>by simp only [frmTs];exact ⟨trivial,fun _=>trivial⟩
  | t::r,q,h,hq=>by
    obtain ⟨h1,h2⟩:=h t List.mem_cons_self q hq
    have e:frm n t q=(true,(frm n t q).2):=Prod.ext h1 rfl
    simp only [frmTs,if_true]
    rw [e]
    obtain ⟨i1,i2⟩:=frmTs_ok (q:=(frm n t q).2) (fun x hx=>h x (List.mem_cons_of_mem _ hx)) (fun y hy=>by rw [h2];exact hq y hy)
    exact ⟨i1,fun y=>by rw [i2,h2]⟩
/-- A built tree is formed. -/
theorem frm_loop (n:Nat):∀ (k:Nat) (l:List Row) (left:Int) (t:Tr) (m:Int),k≤n→loopB n k l left=some (t,m)→Named l→AnyE l→(l.map Row.pick).Pairwise (fun x y=>cmpP x y<0) →
    ∀ q:ML,(∀ y:Int,((n-k:Nat):Int)≤y→seenB q y=false)→(frm (n:Nat) t q).1=true∧∀ y,seenB (frm (n:Nat) t q).2 y=seenB q y
  | 0,l,left,t,m,hk,h,hn,hy,hp,q,hq=>by
    simp only [loopB,Option.some.injEq,Prod.mk.injEq] at h
    obtain ⟨rfl,_⟩:=h
    simp only [frm,if_true,partsT,List.append_nil,List.map_nil,List.length_nil,decide_true,Bool.true_and]
    exact ⟨inc_of hp,fun _=>trivial⟩
  | k+1,l,left,t,m,hk,h,hn,hy,hp,q,hq=>by
    simp only [loopB] at h
    obtain ⟨a,ha⟩:∃ a,a=n-(k+1):=⟨_,rfl⟩
    rw [← ha] at h hq
    have hak:n-k=a+1:=by omega
    split at h
    · exact frm_loop n k l left t m (by omega) h hn hy hp q (fun y hy'=>hq y (by omega))
    · rename_i hnm
      have hemp:=named_names hn hy a
      unfold nodeT at h
      obtain ⟨B,hB⟩:∃ B,B=(fun (l:List Row) (left:Int)=>if left-1<0 then none else loopB n k l (left-1)):=⟨_,rfl⟩
      rw [← hB] at h
      have Bok:∀ (P:Row→Bool) (left':Int) (t':Tr) (m':Int),B (l.filter P) left'=some (t',m') →
          ∀ q:ML,(∀ y:Int,((a+1:Nat):Int)≤y→seenB q y=false)→(frm (n:Nat) t' q).1=true∧∀ y,seenB (frm (n:Nat) t' q).2 y=seenB q y:=fun P left' t' m' h' q hq=>by
        rw [hB] at h'
        simp only at h'
        split at h'
        · cases h'
        · exact frm_loop n k (l.filter P) _ t' m' (by omega) h' (fun r hr=>hn r (List.mem_filter.1 hr).1) (fun r hr=>hy r (List.mem_filter.1 hr).1) (hp.sublist ((List.filter_sublist).map _)) q (by rw [hak];exact hq)
      cases h1:B (l.filter fun x=>fitsB (clsOf x a) anyC) left with
      | none=>rw [h1] at h;cases h
      | some p1 =>
        obtain ⟨tA,n1⟩:=p1
        rw [h1] at h
        simp only at h
        cases h2:caseB B l a (namesS l a) n1 with
        | none=>rw [h2] at h;cases h
        | some p2 =>
          obtain ⟨cs,n2⟩:=p2
          rw [h2] at h
          simp only at h
          cases h3:B (l.filter fun x=>fitsB (clsOf x a) ⟨false,emptyS⟩) n2 with
          | none=>rw [h3] at h;cases h
          | some p3 =>
            obtain ⟨tE,n3⟩:=p3
            rw [h3] at h
            simp only [Option.some.injEq,Prod.mk.injEq] at h
            obtain ⟨rfl,_⟩:=h
            obtain ⟨c1,c2⟩:=caseB_names h2
            have hs0:=hq a (Int.le_refl _)
            have hlen:cs.length=(namesS l a).length:=by rw [← c1,List.length_map]
            have hne:cs.length≠0:=by rw [hlen];exact fun h=>hnm (List.length_eq_zero_iff.1 h)
            have hbadN:badN (n:Nat) [] a [tA] cs [tE] q=false:=by
              unfold badN
              rw [hs0,decide_eq_false (by omega:¬ (a:Int)<0),decide_eq_false (by omega:¬ ((n:Nat):Int)≤(a:Int)),decide_eq_false (by omega:¬ cs.length=0)]
              simp
            have hbadC:badC cs=false:=by
              cases cs with
              | nil=>exact absurd rfl hne
              | cons c0 r =>
                simp only [badC,Bool.or_eq_false_iff,decide_eq_false_iff_not,Bool.not_eq_false']
                refine ⟨fun e=>hemp (by rw [← c1,List.map_cons,e];exact List.mem_cons_self),?_⟩
                rw [incB_get]
                intro i x y hx hy'
                have hs:=names_sorted l a
                rw [← c1] at hs
                obtain ⟨g1,e1⟩:=List.getElem?_eq_some_iff.1 hx
                obtain ⟨g2,e2⟩:=List.getElem?_eq_some_iff.1 hy'
                have:=(List.pairwise_iff_getElem.1 hs) i (i+1) (by simpa using g1) (by simpa using g2) (by omega)
                simp only [List.getElem_map] at this
                rw [e1,e2] at this
                exact this
            rw [frm_two,hbadN,hbadC]
            simp only [Bool.or_self,Bool.false_eq_true,if_false]
            have hkids:∀ x∈[tA]++[tE]++cs.map Cs.tree,∀ q:ML,(∀ y:Int,((a+1:Nat):Int)≤y→seenB q y=false)→(frm (n:Nat) x q).1=true∧∀ y,seenB (frm (n:Nat) x q).2 y=seenB q y:=by
              intro x hx
              simp only [List.mem_append,List.mem_singleton,List.mem_map] at hx
              rcases hx with (rfl | rfl) | ⟨c,hc,rfl⟩
              · exact Bok _ _ _ _ h1
              · exact Bok _ _ _ _ h3
              · obtain ⟨s,m1,m2,hB'⟩:=c2 c hc
                exact Bok _ _ _ _ hB'
            obtain ⟨f1,f2⟩:=frmTs_ok (q:=putB q a true) hkids (fun y hy'=>by rw [seen_put,if_neg (by omega)];exact hq y (by omega))
            refine ⟨f1,fun y=>?_⟩
            rw [seen_put]
            by_cases hya:y=a
            · rw [if_pos hya,hya,hs0]
            · rw [if_neg hya,f2,seen_put,if_neg hya]
end Go.Vx
end
section
namespace Go.Vx
open Go.Proofs
theorem chk_args {f:Flat}(h:chkF f=0){i:Nat}{u:FGroup}{c:FClause}{t:Tm}(hu:f.groups[i]?=some u)(hc:c∈u.alts)(ht:t∈c.args):rawE t=0:=by
  unfold chkF at h
  split at h
  · rename_i hok
    unfold chkOK at hok
    simp only [Bool.and_eq_true,List.all_eq_true] at hok
    have hi:=(List.getElem?_eq_some_iff.1 hu).1
    have hg:=hok.2 i (List.mem_range.2 hi)
    unfold groupB at hg
    rw [hu] at hg
    simp only [Bool.and_eq_true,List.all_eq_true] at hg
    have hcl:=hg.1.2 c hc
    unfold clauseB at hcl
    rw [hu] at hcl
    simp only [Bool.and_eq_true] at hcl
    have h2:=hcl.2
    split at h2
    · simp only [Bool.and_eq_true,List.all_eq_true] at h2
      have h3:=h2.2 t ht
      unfold termB at h3
      simp only [Bool.and_eq_true,decide_eq_true_eq] at h3
      exact h3.1.1.1
    · cases h2
  · exact absurd h (by decide)
theorem name_empty:isName emptyS=false:=by kernel_rfl
theorem rowCls_named {t:Tm}(h:rawE t=0):((rowCls t).any=false→(rowCls t).name≠emptyS)∧((rowCls t).any=true→rowCls t=anyC):=by
  obtain ⟨k,n,s,l⟩:=t
  unfold rawE at h
  split at h
  · rename_i h1;exact absurd h h1
  · split at h
    · rename_i h2
      simp only [rawT,Bool.and_eq_true] at h2
      have h3:=h2.1
      unfold nodeB at h3
      simp only [rowCls]
      by_cases hk:k=1
      · rw [if_pos hk] at h3 ⊢
        simp only [Bool.and_eq_true] at h3
        refine ⟨fun _ e=>?_,fun h=>Bool.noConfusion h⟩
        simp only at e
        rw [e,name_empty] at h3
        simp at h3
      · rw [if_neg hk]
        exact ⟨fun h=>Bool.noConfusion h,fun _=>rfl⟩
    · exact absurd h (by decide)
theorem rowsLoop_named (f:Flat)(P:Cls→Prop)(l:List Pick)(hl:∀ x∈l,∀ c,clauseAt f x=some c→∀ t∈c.args,P (rowCls t)):∀ (out:List Row) (n:Nat) (q:List Row×Nat),rowsLoop f l out n=some q→(∀ r∈out,∀ c∈r.classes,P c)→∀ r∈q.1,∀ c∈r.classes,P c:=by
  induction l with
  | nil=>intro out n q h ho;simp only [rowsLoop,Option.some.injEq] at h;subst h;exact ho
  | cons x r ih =>
    intro out n q h ho
    simp only [rowsLoop] at h
    cases hc:clauseAt f x with
    | none=>rw [hc] at h;cases h
    | some c =>
      rw [hc] at h
      simp only at h
      split at h
      · cases h
      · refine ih (fun y hy=>hl y (List.mem_cons_of_mem _ hy)) _ _ _ h (fun w hw c' hc'=>?_)
        rcases List.mem_append.1 hw with hw | hw
        · exact ho w hw c' hc'
        · simp only [List.mem_singleton] at hw
          subst hw
          obtain ⟨t,ht,e⟩:=List.mem_map.1 hc'
          rw [← e];exact hl x List.mem_cons_self c hc t ht
theorem rows_named (f:Flat)(pred:Str)(h:(rowsR f pred).2.2=0):Named (rowsR f pred).1∧AnyE (rowsR f pred).1:=by
  have hchk:=(rows_facts f pred h).1
  have key:∀ P:Cls→Prop,(∀ t,rawE t=0→P (rowCls t))→∀ r∈(rowsR f pred).1,∀ c∈r.classes,P c:=by
    intro P hP
    unfold rowsR at h ⊢
    rw [if_neg (by omega)] at h ⊢
    cases hl:rowsLoop f (headsS f pred) [] 0 with
    | none=>simp
    | some q =>
      rw [hl] at h
      simp only at h ⊢
      split
      · simp
      · refine rowsLoop_named f P (headsS f pred) (fun x hx c hc t ht=>?_) [] 0 q hl (by simp)
        obtain ⟨i,j,n,u,c',_,_,_,h4,h5,h6⟩:=heads_at hx
        rw [hc] at h6
        injection h6 with h6;subst h6
        exact hP t (chk_args hchk h4 (List.mem_of_getElem? h5) ht)
  exact ⟨fun r hr c hc=>key (fun c=>c.any=false→c.name≠emptyS) (fun t ht=>(rowCls_named ht).1) r hr c hc,fun r hr c hc=>key (fun c=>c.any=true→c=anyC) (fun t ht=>(rowCls_named ht).2) r hr c hc⟩
theorem seen_nil (y:Int):seenB ([],0) y=false:=rfl
/-- What Build answers is formed,and selects the clauses that fit. -/
theorem build_good (f:Flat)(pred:Str)(h:(buildS f pred).2=0):(rowsR f pred).2.2=0∧isFormedS (buildS f pred).1 ((rowsR f pred).2.1:Nat)=true ∧
    ∀ args:List Tm,args.length=(rowsR f pred).2.1→selS (buildS f pred).1 args=((rowsR f pred).1.filter (fitsAll args)).map Row.pick:=by
  unfold buildS at h ⊢
  by_cases h0:(rowsR f pred).2.2≠0
  · rw [if_pos h0] at h;exact absurd h h0
  · rw [if_neg h0] at h ⊢
    have h0':(rowsR f pred).2.2=0:=by omega
    obtain ⟨hn,hy⟩:=rows_named f pred h0'
    have hpk:=(rows_facts f pred h0').2.2.2.2
    have hsort:((rowsR f pred).1.map Row.pick).Pairwise (fun x y=>cmpP x y<0):=by rw [hpk];exact heads_sorted f pred
    refine ⟨h0',?_⟩
    cases hb:bldS (rowsR f pred).2.1 (rowsR f pred).2.1 (rowsR f pred).1 4000 with
    | none=>rw [hb] at h;exact absurd h (by decide)
    | some p =>
      obtain ⟨t,m⟩:=p
      simp only
      unfold bldS at hb
      rw [if_neg (by decide)] at hb
      obtain ⟨c1,c2⟩:=loop_count _ _ _ _ _ _ (by decide) hb
      refine ⟨?_,fun args ha=>?_⟩
      · unfold isFormedS
        have hfr:=frm_loop (rowsR f pred).2.1 (rowsR f pred).2.1 _ _ _ _ (Nat.le_refl _) hb hn hy hsort ([],0) (fun y _=>seen_nil y)
        have hsz:sizeS t 4000≤4000:=by rw [sizeS_exact t 4000 (by omega)];omega
        rw [decide_eq_true hsz,hfr.1];rfl
      · rw [← ha] at hb
        exact sel_loop args args.length (rowsR f pred).1 _ t m (Nat.le_refl _) hb hn hy (fun r _ j hj=>by omega)
theorem build_few (f:Flat)(pred:Str):trN (buildS f pred).1≤4000:=by
  unfold buildS
  split
  · show trN (.mk 0 [] 0 [] [] [])≤4000;decide
  · split
    · show trN (.mk 0 [] 0 [] [] [])≤4000;decide
    · rename_i t m hb
      unfold bldS at hb
      rw [if_neg (by decide)] at hb
      obtain ⟨c1,c2⟩:=loop_count _ _ _ _ _ _ (by decide) hb
      simp only;omega
/-- What Check accepts selects the clauses that fit. -/
theorem check_good (f:Flat)(pred:Str)(t:Tr)(h:checkS f pred t=0)(args:List Tm)(ha:args.length=(rowsR f pred).2.1):isFormedS t (args.length:Nat)=true∧selS t args=((rowsR f pred).1.filter (fitsAll args)).map Row.pick:=by
  unfold checkS at h
  split at h
  · rename_i h0;exact absurd h h0
  · split at h
    · rename_i hok
      simp only [Bool.and_eq_true] at hok
      rw [← ha] at hok
      refine ⟨hok.1,?_⟩
      have hf:=hok.1
      unfold isFormedS at hf
      simp only [Bool.and_eq_true] at hf
      exact sel_right args t _ _ hf.2 hok.2
    · exact absurd h (by decide)
theorem check_bad (f:Flat)(pred:Str)(t:Tr)(args:List Tm)(ha:args.length=(rowsR f pred).2.1)(h0:(rowsR f pred).2.2=0)(h:isFormedS t (args.length:Nat)=false):checkS f pred t=230:=by
  unfold checkS
  rw [if_neg (by omega),← ha,h];rfl
end Go.Vx
end
section
set_option maxRecDepth 100000
namespace Go.Vx
open Go.Proofs
theorem tb3:(szOf Tryz.prog 25=some 2)∧(aggOf Tryz.prog 25=some true)∧(szOf Tryz.prog 30=some 6)∧(aggOf Tryz.prog 30=some true)∧(fOff Tryz.prog 35 2=some 3)∧(szOf Tryz.prog 33=some 1)∧(aggOf Tryz.prog 33=some false)∧(fOff Tryz.prog 35 0=some 0)∧(szOf Tryz.prog 9=some 1)∧(aggOf Tryz.prog 9=some false)∧(zeroOf Tryz.prog 30=some (.agg #[(.int .i64 0),(.slice none 0 0),(.int .i64 0),(.slice none 0 0),(.slice none 0 0),(.slice none 0 0)]))∧(Tryz.prog.underlying 9=some .string)∧(Tryz.prog.underlying 33=some (.slice 52)):=by
  refine ⟨?_,?_,?_,?_,?_,?_,?_,?_,?_,?_,?_,?_,?_⟩<;>first | trivial | kernel_rfl
theorem caught_law (f:Flat)(pred:Str)(t:Tr)(args:List Tm)(he:(buildS f pred).2=0)(ha:(((clausesS f pred).2.1:Nat):Int)=((args.length:Nat):Int)) :
    ((selectS (buildS f pred).1 args).2≠0→(selectS (buildS f pred).1 args).2=1) ∧
    ((selectS (buildS f pred).1 args).2=0→((selectS t args).2≠0→checkS f pred t≠0)∧((selectS t args).2=0→checkS f pred t=0→(selectS t args).1=(selectS (buildS f pred).1 args).1)):=by
  obtain ⟨h0,hf,hs⟩:=build_good f pred he
  have hn:args.length=(rowsR f pred).2.1:=by
    unfold clausesS at ha
    rw [if_neg (by omega)] at ha
    simp only at ha
    omega
  rw [← hn] at hf
  have hsel:=hs args hn
  have eb:∀ u,selectS u args=if 8<args.length∨rawsB args=false then ([],1) else if isFormedS u (args.length:Nat)=false then ([],230) else (selS u args,0):=fun u=>rfl
  rw [eb,eb]
  by_cases hx:8<args.length∨rawsB args=false
  · simp only [if_pos hx]
    exact ⟨fun _=>trivial,fun h=>absurd h (by decide)⟩
  · simp only [if_neg hx,hf,if_neg (show ¬ (true=false) by decide)]
    refine ⟨fun h=>absurd rfl h,fun _=>⟨fun h=>?_,fun h hc=>?_⟩⟩
    · cases hu:isFormedS t (args.length:Nat) with
      | true=>rw [hu] at h;simp at h
      | false=>rw [check_bad f pred t args hn h0 hu];decide
    · obtain ⟨g1,g2⟩:=check_good f pred t hc args hn
      rw [g1,if_neg (by decide)]
      rw [g2,hsel]
theorem treeCaught_c (f:Flat)(t:Tr)(pred:Str)(xr xa:Int)(args:List Tm)(hB:trN t≤bigN)(hH:f.rules.length≤300→(headsS f pred).length≤137438953472) :
    Pur Tryz.prog 3 [.agg f.emb,.agg t.emb,.agg (askE pred xr xa args)] (vb true):=by
  intro σ
  have hsa:=sane_c
  have hfew:=few_c f
  have hsm:=lawSmall_c t
  have hsh:=short_c args .none 4 (.inl rfl)
  have hbu:=fun h=>treeBuild_c f pred (hH h)
  have hcl:=fun h=>clauses_c f pred (hH h)
  have hck:=fun h=>treeCheck_c f pred t hB (hH h)
  have hse:=select_c t args hB .none 4 (.inl rfl)
  have hlaw:=caught_law f pred t args
  have hBb:trN (buildS f pred).1≤bigN:=Nat.le_trans (build_few f pred) (by decide)
  have hsb:=select_c (buildS f pred).1 args hBb .none 4 (.inl rfl)
  obtain ⟨⟨b,eb⟩,hBu⟩:∃ q,q=buildS f pred:=⟨_,rfl⟩
  obtain ⟨⟨cl,n,e⟩,hC⟩:∃ q,q=clausesS f pred:=⟨_,rfl⟩
  rw [← hBu] at hbu hsb hlaw
  rw [← hC] at hcl hlaw
  simp only at hbu hsb hlaw hcl
  obtain ⟨⟨own,h⟩,hO⟩:∃ q,q=selectS b args:=⟨_,rfl⟩
  obtain ⟨⟨sl,g⟩,hS⟩:∃ q,q=selectS t args:=⟨_,rfl⟩
  obtain ⟨ck,hK⟩:∃ q,q=checkS f pred t:=⟨_,rfl⟩
  rw [← hO] at hsb hlaw
  rw [← hS] at hse hlaw
  rw [← hK] at hck hlaw
  simp only at hsb hse hlaw
  have hsp:=samePicks_c sl own .none .none 2 2 (.inl rfl) (.inl rfl)
  clear hC hS hK hO hBu hBb
  refine ACalls.ok (by kernel_rfl) (fun hok=>?_)
  clear hok
  obtain ⟨kt,pt,at_,yt,ct,et⟩:=t
  obtain ⟨kb,pb,ab,yb,cb,ebb⟩:=b
  simp only [askE,Flat.emb,Tr.emb_mk] at hfew hsm hcl hck hse hsb hbu ⊢
  refine acalls_of [] [] Tryz.func3 rfl (by kernel_rfl) ?_;rw [Tryz.ntmps3,Tryz.results3]
  try simp only [go_sem,seval,tb3]
  refine hsa.use ?_
  try simp only [go_sem,seval,tb3]
  refine (hfew _).mono ?_
  rintro r _ ⟨⟨b1,rfl,hb1⟩,rfl⟩
  cases b1 with
  | false =>
    try simp only [go_sem,seval,tb3]
    exact fin_same
  | true =>
    have h300:=hb1 rfl
    try simp only [go_sem,seval,tb3]
    refine (hsm _).mono ?_
    rintro r _ ⟨⟨b2,rfl⟩,rfl⟩
    cases b2 with
    | false =>
      try simp only [go_sem,seval,tb3]
      exact fin_same
    | true =>
      try simp only [go_sem,seval,tb3]
      refine (hsh _).mono ?_
      rintro r _ ⟨⟨b3,rfl,hb3⟩,rfl⟩
      cases b3 with
      | false =>
        try simp only [go_sem,seval,tb3]
        exact fin_same
      | true =>
        by_cases h100:(100:Int)<((pred.size:Nat):Int)
        · have e100:=eq_true h100
          try simp only [go_sem,seval,tb3,e100,decide_true]
          exact fin_same
        · have e100:=eq_false h100
          try simp only [go_sem,seval,tb3,e100,decide_false]
          refine (hbu h300).use ?_
          try simp only [go_sem,seval,tb3]
          intro bx hbx
          refine (hcl h300).use ?_
          by_cases heb:eb=0
          · subst heb
            by_cases he:e=0
            · subst he
              by_cases hn:((n:Nat):Int)=((args.length:Nat):Int)
              · have en:=eq_true hn
                obtain ⟨l1,l2⟩:=hlaw rfl hn
                try simp only [go_sem,seval,tb3,en,decide_true,Tm.embs_len]
                refine hsb.use ?_
                try simp only [go_sem,seval,tb3]
                refine hse.use ?_
                by_cases hh:h=0
                · subst hh
                  obtain ⟨l3,l4⟩:=l2 rfl
                  try simp only [go_sem,seval,tb3]
                  refine (hck h300).use ?_
                  by_cases hg:g=0
                  · subst hg
                    by_cases hk:ck=0
                    · subst hk
                      have l5:=l4 rfl rfl
                      try simp only [go_sem,seval,tb3]
                      refine hsp.use ?_
                      try simp only [go_sem,seval,tb3,l5,decide_true]
                      exact .mk (.refl _) ((Sub.refl _).skip _) ⟨rfl,rfl⟩
                    · have ek:=eq_false hk
                      try simp only [go_sem,seval,tb3,ek,decide_false]
                      exact .mk (.refl _) ((Sub.refl _).skip _) ⟨rfl,rfl⟩
                  · have eg:=eq_false hg
                    have ek:=eq_false (l3 hg)
                    try simp only [go_sem,seval,tb3,eg,ek,decide_false]
                    exact .mk (.refl _) ((Sub.refl _).skip _) ⟨rfl,rfl⟩
                · have eh:=eq_false hh
                  have h1:=eq_true (l1 hh)
                  try simp only [go_sem,seval,tb3,eh,h1,decide_false,decide_true]
                  exact .mk (.refl _) ((Sub.refl _).skip _) ⟨rfl,rfl⟩
              · have en:=eq_false hn
                try simp only [go_sem,seval,tb3,en,decide_false,Tm.embs_len]
                exact .mk (.refl _) ((Sub.refl _).skip _) ⟨rfl,rfl⟩
            · have ee:=eq_false he
              try simp only [go_sem,seval,tb3,ee,decide_false]
              exact .mk (.refl _) ((Sub.refl _).skip _) ⟨rfl,rfl⟩
          · have ee:=eq_false heb
            try simp only [go_sem,seval,tb3,ee,decide_false]
            exact .mk (.refl _) ((Sub.refl _).skip _) ⟨rfl,rfl⟩
end Go.Vx
end
