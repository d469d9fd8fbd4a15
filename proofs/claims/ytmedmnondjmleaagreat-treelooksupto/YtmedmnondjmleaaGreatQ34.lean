/- Part Q34 of the proof of treeLooksProved: the walk of the program on abstract values, and the plain law. -/
import Derived.Test.YtmedmnondjmleaaGreatQ33
import Derived.Test.YtmedmnondjmleaaGreatQ30
import Derived.Test.YtmedmnondjmleaaGreatQ14
set_option linter.unusedVariables false
set_option linter.unusedSimpArgs false
section
set_option maxRecDepth 100000
namespace Go.Vx
open Go.Proofs
theorem VO:(Zh Tryz.prog 30=some 6)∧(Ze Tryz.prog 30=some true)∧(Zz Tryz.prog 30 0=some 0)∧(Zh Tryz.prog 3=some 1)∧(Ze Tryz.prog 3=some false)∧(Zz Tryz.prog 30 2=some 2)∧(ZA Tryz.prog 33=some 52)∧(Zh Tryz.prog 52=some 4)∧(Ze Tryz.prog 52=some true)∧(Zl Tryz.prog 107=some (.agg #[(.bool false),(.string ⟨#[]⟩)]))∧(Zh Tryz.prog 107=some 2)∧(Zz Tryz.prog 30 4=some 4)∧(Zh Tryz.prog 28=some 1)∧(Ze Tryz.prog 28=some false)∧(Zz Tryz.prog 107 0=some 0)∧(Zh Tryz.prog 4=some 1)∧(Ze Tryz.prog 4=some false)∧(Zz Tryz.prog 30 3=some 3)∧(Zh Tryz.prog 27=some 1)∧(Ze Tryz.prog 27=some false)∧(ZA Tryz.prog 27=some 30)∧(ZA Tryz.prog 28=some 114)∧(Zh Tryz.prog 114=some 7)∧(Zz Tryz.prog 114 1=some 1)∧(Zz Tryz.prog 30 5=some 5)∧(Zz Tryz.prog 30 1=some 1)∧(Zh Tryz.prog 26=some 1)∧(Ze Tryz.prog 26=some false)∧(Tryz.prog.underlying 33=some (.slice 52)):=by
 refine ⟨?_,?_,?_,?_,?_,?_,?_,?_,?_,?_,?_,?_,?_,?_,?_,?_,?_,?_,?_,?_,?_,?_,?_,?_,?_,?_,?_,?_,?_⟩<;>first | trivial | kernel_rfl
theorem aE:(Zh Tryz.prog 52=some 4)∧(Ze Tryz.prog 52=some true):=by
 refine ⟨?_,?_⟩<;>first | trivial | kernel_rfl
theorem BR:(Zz Tryz.prog 107 0=some 0)∧(Zh Tryz.prog 4=some 1)∧(Ze Tryz.prog 4=some false)∧(Zz Tryz.prog 114 0=some 0)∧(Zh Tryz.prog 9=some 1)∧(Ze Tryz.prog 9=some false)∧(Zz Tryz.prog 107 1=some 1):=by
 refine ⟨?_,?_,?_,?_,?_,?_,?_⟩<;>first | trivial | kernel_rfl
def bV (n:Int):Tr→Prop
 | .mk k p a y c e=>(k=1∧a=0∧y=[]∧c=[]∧e=[]∧TX U2 p=true)∨(k=2∧0≤a∧a<n∧p=[]∧(∃ y0,y=[y0])∧(∃ e0,e=[e0])∧Q0 c=false)
inductive Shp (n:Int):Tr→Prop where
 | mk (t:Tr) (h:bV n t) (hp:∀ x∈ZH t,Shp n x):Shp n t
theorem QG {n:Int}:∀ (l:List Tr) (q:Bool×ML),(Z3 n l q).1=true→q.1=true∧∀ x∈l,∃ q',(frm n x q').1=true
 | [],q,h=>⟨h,by simp⟩
 | t::r,q,h=>by
   simp only [Z3] at h
   split at h
   ·rename_i hq
    obtain ⟨h1,h2⟩:=QG r _ h
    exact ⟨hq,fun x hx=>(List.mem_cons.1 hx).elim (fun e=>e ▸ ⟨_,h1⟩) (h2 x)⟩
   ·rename_i hq;exact absurd h hq
theorem JP (n:Int)(t:Tr):∀ q,(frm n t q).1=true→Shp n t:=by
 refine Xa (M:=fun t=>∀ q,(frm n t q).1=true→Shp n t) (fun t ih q h=>?_) t
 obtain ⟨k,p,a,y,c,e⟩:=t
 rw [Kr] at h
 split at h
 ·rename_i hk
  simp only [ZH,Bool.and_eq_true,decide_eq_true_eq,List.length_append,List.length_map] at h
  obtain ⟨⟨h1,h2⟩,h3⟩:=h
  have hy:y=[]:=List.length_eq_zero_iff.1 (by omega)
  have he:e=[]:=List.length_eq_zero_iff.1 (by omega)
  have hc:c=[]:=List.length_eq_zero_iff.1 (by omega)
  subst hy;subst he;subst hc
  exact .mk _ (.inl ⟨hk,h1,rfl,rfl,rfl,h3⟩) (by simp [ZH])
 ·split at h
  ·rename_i hk
   split at h
   ·simp at h
   ·rename_i hb
    simp only [Bool.or_eq_true,not_or,Bool.not_eq_true,WZ,Bool.or_eq_false_iff,decide_eq_false_iff_not,Decidable.not_not] at hb
    obtain ⟨⟨⟨⟨⟨⟨⟨b1,b2⟩,b3⟩,b4⟩,b5⟩,b6⟩,b7⟩,b8⟩:=hb
    refine .mk _ (.inr ⟨hk,by omega,by omega,List.length_eq_zero_iff.1 (by omega),List.length_eq_one_iff.1 b4,List.length_eq_one_iff.1 b5,b8⟩) (fun x hx=>?_)
    obtain ⟨q',hq'⟩:=(QG _ _ h).2 x hx
    exact ih x (Yj hx) q' hq'
  ·simp at h
theorem R3 {s:Str}{args:List Tm}{d:List Pick}:∀ (c:List Cs),(∀ q∈c,q.name≠s)→SW s args d c=d
 | [],_=>rfl
 | q::r,h=>by simp only [SW];rw [if_neg (h q List.mem_cons_self)];exact R3 r (fun x hx=>h x (List.mem_cons_of_mem _ hx))
theorem N6 {s:Str}{args:List Tm}{d:List Pick}:∀ (c:List Cs) (i:Nat) (q:Cs),c[i]?=some q→q.name=s→(∀ (j:Nat) (x:Cs),j<i→c[j]?=some x→x.name≠s)→SW s args d c=TI q.tree args
 | [],i,q,h,_,_=>by simp at h
 | a::r,0,q,h,hn,_=>by simp at h;subst h;simp only [SW,if_pos hn];cases a;rfl
 | a::r,i+1,q,h,hn,hj=>by
   simp only [SW]
   rw [if_neg (hj 0 a (by omega) rfl)]
   exact N6 r i q (by simpa using h) hn (fun j x hji hx=>hj (j+1) x (by omega) (by simpa using hx))
theorem Ig (t:Tm):Pur Tryz.prog 59 [.agg t.emb] (vb (!decide (Ur t=0))):=by
 intro σ
 have h:=Jy t
 obtain ⟨k,n,s,l⟩:=t
 simp only [co] at h ⊢
 refine Zc [] [] Tryz.func59 rfl (by kernel_rfl) ?_;rw [Tryz.ntmps59,Tryz.results59]
 refine gN ?_
 refine h.use ?_
 refine gN ?_
 exact Zu
theorem GH (l:List Tm)(rt:Rt)(s:Nat)(hs:s=4∨l=[]):Pur Tryz.prog 58 [.list rt s (cH l),.val (.func (.func 59) #[] #[])] (vb (!N9 l)):=by
 intro σ
 have h:=Rq (.func (.func 59) #[] #[]) rt s (cH l) (fun _=>σ) (fun i=>match l[i]? with | some t=>!decide (Ur t=0) | none=>false) (hs.imp id (fun h=>by rw [h];rfl)) (fun i e he=>by obtain ⟨t,_,rfl⟩:=cR he;cases t;rfl)
  (fun i e he _=>by
   obtain ⟨t,ht,rfl⟩:=cR he
   rw [Y5]
   simp only [ht]
   exact (Ig t) σ)
 refine h.mono fun x σ' hx=>?_
 refine hx.one ?_
 rw [ci]
 have:(!N9 l)=l.any (fun t=>!decide (Ur t=0)):=by
  unfold N9;rw [List.any_eq_not_all_not];simp
 rw [this,List.any_eq_true]
 constructor
 ·rintro ⟨n,hn,hb⟩
  obtain ⟨i,hi,rfl⟩:=List.getElem_of_mem hn
  exact ⟨i,hi,by simp only [List.getElem?_eq_getElem hi];exact hb⟩
 ·rintro ⟨i,hi,hb⟩
  simp only [List.getElem?_eq_getElem hi] at hb
  exact ⟨_,List.getElem_mem hi,hb⟩
def GK (b:Nat):Value:=.func (.func 64) #[] #[.pointer (some ⟨b,0,none⟩)]
theorem Ie (c:Cs)(cl:Cls)(b:Nat)(σ:Store)(g:σ.get b=some (.cells cl.emb)):Zj Tryz.prog 64 [.agg c.emb,.val (.pointer (some ⟨b,0,none⟩))] σ (Z8 (vb (!cl.any&&decide (c.name=cl.name))) σ):=by
 obtain ⟨s,t⟩:=c
 obtain ⟨k,p,a,y,cc,e⟩:=t
 obtain ⟨ca,cn⟩:=cl
 simp only [di,Cls.emb] at g ⊢
 refine Zc [] [] Tryz.func64 rfl (by kernel_rfl) ?_;rw [Tryz.ntmps64,Tryz.results64]
 refine fj ?_
 cases ca with
 | true =>
   refine fj ?_
   exact ZC (by simp)
 | false =>
   refine fj ?_
   exact ZC (by simp only [Cs.name,Bool.not_false,Bool.true_and];exact decide_eq_decide.2 Iff.rfl)
theorem GI (c:List Cs)(cl:Cls)(b:Nat)(σ:Store)(g:σ.get b=some (.cells cl.emb)):Zj Tryz.prog 63 [.list .none 7 (cP c),.val (GK b)] σ
 (fun r σ'=>σ'=σ∧((∃ (i:Nat) (q:Cs),c[i]?=some q∧cl.any=false∧q.name=cl.name∧(∀ (j:Nat) (x:Cs),j<i→c[j]?=some x→x.name≠cl.name)∧r=.ret (vi i))∨((cl.any=false→∀ q∈c,q.name≠cl.name)∧r=.ret (vi (-1))))):=by
 have h:=Uz (GK b) .none 7 (cP c) (fun _=>σ) (fun i=>match c[i]? with | some q=>!cl.any&&decide (q.name=cl.name) | none=>false) (.inl rfl) (fun i e he=>by obtain ⟨t,_,rfl⟩:=da he;exact t.emb_len)
  (fun i e he _=>by
   obtain ⟨q,hq,rfl⟩:=da he
   unfold GK
   rw [Y5]
   simp only [hq]
   exact Ie q cl b σ g)
 refine h.mono fun x σ' hx=>?_
 rcases hx with ⟨i,hi,hb,hn,rfl,rfl⟩ | ⟨hn,rfl,rfl⟩
 ·rw [cF] at hi
  simp only [List.getElem?_eq_getElem hi,Bool.and_eq_true,Bool.not_eq_true',decide_eq_true_eq] at hb
  refine ⟨rfl,.inl ⟨i,c[i],List.getElem?_eq_getElem hi,hb.1,hb.2,fun j x hj hx he=>?_,rfl⟩⟩
  have:=hn j hj
  simp only [hx,hb.1,he] at this
  simp at this
 ·refine ⟨rfl,.inr ⟨fun ha q hq he=>?_,rfl⟩⟩
  obtain ⟨i,hi,rfl⟩:=List.getElem_of_mem hq
  have:=hn i (by rw [cF];exact hi)
  simp only [List.getElem?_eq_getElem hi,ha,he] at this
  simp at this
theorem OI {a b:Nat}{x y:AObj}{σ:Store}:Sub ((b,y)::σ) ((a,x)::(b,y)::σ):=(Sub.refl _).skip _
theorem R2 (t:Tr)(args:List Tm)(hB:trN t≤bigN)(rt:Rt)(s:Nat)(hs:s=4∨args=[]):Pur Tryz.prog 17 [.agg t.emb,.list rt s (cH args)] (.tup [.list .none 2 (cI (VP t args).1),vi (VP t args).2]):=by
 intro σ
 have hif:=Qv (args.length:Nat) (by omega) t hB
 have hraw:=GH args rt s hs
 have hshp:=fun (h:Xe t (args.length:Nat)=true)=>JP (args.length:Nat) t ([],0) (by unfold Xe at h;simp only [Bool.and_eq_true] at h;exact h.2)
 obtain ⟨T,hT⟩:∃ T,T=VP t args:=⟨_,rfl⟩
 rw [← hT]
 unfold VP at hT
 obtain ⟨k,p,a,y,c,e⟩:=t
 simp only [cm] at hif ⊢
 refine Zc [2] [] Tryz.func17 rfl (by kernel_rfl) ?_;rw [Tryz.ntmps17,Tryz.results17]
 refine gL ?_
 intro b2 hb2
 by_cases h8:8<args.length
 ·have e8:((8:Int)<((args.length:Nat):Int))=True:=eq_true (by omega)
  rw [if_pos (.inl h8)] at hT
  try simp only [go_sem,Int.reduceEq,Int.reduceLT,Int.reduceLE,↓reduceIte,Nat.reduceEqDiff,Nat.reduceAdd,Nat.reduceSub,Nat.reduceLT,Nat.reduceLeDiff,Nat.reduceMul,reduceCtorEq,VO,ci,e8,decide_true]
  subst hT
  exact im
 ·have e8:((8:Int)<((args.length:Nat):Int))=False:=eq_false (by omega)
  try simp only [go_sem,Int.reduceEq,Int.reduceLT,Int.reduceLE,↓reduceIte,Nat.reduceEqDiff,Nat.reduceAdd,Nat.reduceSub,Nat.reduceLT,Nat.reduceLeDiff,Nat.reduceMul,reduceCtorEq,VO,ci,e8,decide_false]
  refine hraw.use ?_
  cases hr:N9 args with
  | false =>
    rw [if_pos (.inr hr)] at hT
    refine eD ?_
    subst hT
    exact im
  | true =>
    rw [if_neg (by simp [hr];omega)] at hT
    refine gL ?_
    refine hif.use ?_
    cases hf:Xe (.mk k p a y c e) (args.length:Nat) with
    | false =>
      rw [if_pos hf] at hT
      refine eD ?_
      subst hT
      exact im
    | true =>
      rw [if_neg (by simp [hf])] at hT
      subst hT
      have hsh:=hshp hf
      clear hshp hif hraw hf
      refine eD ?_
      refine Zv (mu:=[2]) (dr:=[]) [6,7,20,21,22,23,24,25,26,27,28,29,30,31,32,33,34,35,36,37,38,39,40,41,42,43,44,45,46,47,48,49,50,51,52] (fun _:Tr=>[]) (fun t=>(b2,.cells t.emb)::σ) (fun t=>Shp (args.length:Nat) t∧TI t args=TI (.mk k p a y c e) args) trN (.mk k p a y c e) (by kernel_rfl) ⟨hsh,rfl⟩ trivial (.refl _) ?_
      rintro ⟨k,p,a,y,c,e⟩ ⟨hsh,hsel⟩
      rw [← hsel]
      cases hsh with
      | mk _ h1 hp =>
      simp only [cm]
      by_cases hk:k=2
      ·have ek:=eq_true hk
       rcases h1 with ⟨q,_⟩ | ⟨_,ha0,han,hp0,⟨y0,rfl⟩,⟨e0,rfl⟩,hbc⟩
       ·exact absurd (q.symm.trans hk) (by decide)
       obtain ⟨ai,rfl⟩:∃ ai:Nat,a=ai:=⟨a.toNat,by omega⟩
       obtain ⟨tm,htm⟩:∃ tm,args[ai]?=some tm:=⟨_,List.getElem?_eq_getElem (by omega)⟩
       have hsE:TI (.mk k p (ai:Nat) [y0] c [e0]) args=if (Tt tm).any then TI y0 args else SW (Tt tm).name args (TI e0 args) c:=by
        simp only [TI,GJ,Int.toNat_natCast,htm,if_pos hk]
       have hnx:∀ x,x∈ZH (.mk k p (ai:Nat) [y0] c [e0])→Shp (args.length:Nat) x∧trN x<trN (.mk k p (ai:Nat) [y0] c [e0]):=fun x hx=>⟨hp x hx,Yj hx⟩
       have my0:=hnx y0 (by simp [ZH])
       have me0:=hnx e0 (by simp [ZH])
       have mc0:=fun (q:Cs) (hq:q∈c)=>hnx q.tree (by simp only [ZH,List.mem_append,List.mem_map];exact .inr ⟨q,hq,rfl⟩)
       try simp only [go_sem,Int.reduceEq,Int.reduceLT,Int.reduceLE,↓reduceIte,Nat.reduceEqDiff,Nat.reduceAdd,Nat.reduceSub,Nat.reduceLT,Nat.reduceLeDiff,Nat.reduceMul,reduceCtorEq,VO,ek,decide_true,ci]
       refine ⟨?_,by omega,by omega,fun d hd=>?_⟩
       ·rcases hs with hs | hs
        ·rw [hs]
        ·rw [hs] at htm;simp at htm
       rw [Int.toNat_natCast] at hd
       obtain ⟨tm',htm',rfl⟩:=cR hd
       rw [htm] at htm';injection htm' with htm';subst htm'
       have hcl:=Hq tm
       obtain ⟨⟨ca,cn⟩,hCl⟩:∃ q,q=Tt tm:=⟨_,rfl⟩
       rw [← hCl] at hcl hsE
       obtain ⟨tk,tn,ts,tl⟩:=tm
       simp only [co,Cls.emb] at hcl ⊢
       refine eD ?_
       refine hcl.use ?_
       refine eD ?_
       intro b6 hb6
       have n62:b6≠b2:=Ne.symm hb6.1
       try simp only [go_sem,Int.reduceEq,Int.reduceLT,Int.reduceLE,↓reduceIte,Nat.reduceEqDiff,Nat.reduceAdd,Nat.reduceSub,Nat.reduceLT,Nat.reduceLeDiff,Nat.reduceMul,reduceCtorEq,VO,n62]
       refine (GI c ⟨ca,cn⟩ b6 _ (Zi _ _ _)).mono ?_
       rintro r σ' ⟨rfl,hr⟩
       cases ca with
       | true =>
         obtain ⟨k1,p1,a1,y1,c1,e1⟩:=y0
         rcases hr with ⟨i,q,hq,ha,_⟩ | ⟨_,rfl⟩
         ·cases ha
         ·try simp only [go_sem,Int.reduceEq,Int.reduceLT,Int.reduceLE,↓reduceIte,Nat.reduceEqDiff,Nat.reduceAdd,Nat.reduceSub,Nat.reduceLT,Nat.reduceLeDiff,Nat.reduceMul,reduceCtorEq,VO,n62,Cls.emb,cD,cm,List.length_singleton]
          refine ⟨by decide,fun d hd=>?_⟩
          have hd2:=Option.some.inj hd
          rw [← hd2]
          refine fU ?_
          refine .mk (.mk k1 p1 a1 y1 c1 e1) ⟨my0.1,by rw [hsE];rfl⟩ my0.2 trivial (by repeat first | exact Zf.turn _ rfl | refine Zf.put rfl ?_) OI
       | false =>
         rcases hr with ⟨i,q,hq,_,hqn,hqj,rfl⟩ | ⟨hno,rfl⟩
         ·have ei:((0:Int)≤(i:Nat))=True:=eq_true (by omega)
          have hqm:=mc0 q (List.mem_of_getElem? hq)
          have hsq:=N6 (d:=TI e0 args) (args:=args) c i q hq hqn hqj
          try simp only [go_sem,Int.reduceEq,Int.reduceLT,Int.reduceLE,↓reduceIte,Nat.reduceEqDiff,Nat.reduceAdd,Nat.reduceSub,Nat.reduceLT,Nat.reduceLeDiff,Nat.reduceMul,reduceCtorEq,VO,n62,Cls.emb,ei,decide_true,cF]
          have hil:=(List.getElem?_eq_some_iff.1 hq).1
          refine ⟨by omega,fun d hd=>?_⟩
          rw [Int.toNat_natCast] at hd
          obtain ⟨q',hq',rfl⟩:=da hd
          rw [hq] at hq';injection hq' with hq';subst hq'
          obtain ⟨s1,k1,p1,a1,y1,c1,e1⟩:=q
          try simp only [go_sem,Int.reduceEq,Int.reduceLT,Int.reduceLE,↓reduceIte,Nat.reduceEqDiff,Nat.reduceAdd,Nat.reduceSub,Nat.reduceLT,Nat.reduceLeDiff,Nat.reduceMul,reduceCtorEq,VO,n62,di]
          refine .mk (.mk k1 p1 a1 y1 c1 e1) ⟨hqm.1,by rw [hsE];simp only [Bool.false_eq_true,if_false];rw [hsq];rfl⟩ hqm.2 trivial (by repeat first | exact Zf.turn _ rfl | refine Zf.put rfl ?_) OI
         ·have ei:((0:Int)≤-1)=False:=eq_false (by omega)
          have hsq:=R3 (d:=TI e0 args) (args:=args) c (hno rfl)
          obtain ⟨k1,p1,a1,y1,c1,e1⟩:=e0
          try simp only [go_sem,Int.reduceEq,Int.reduceLT,Int.reduceLE,↓reduceIte,Nat.reduceEqDiff,Nat.reduceAdd,Nat.reduceSub,Nat.reduceLT,Nat.reduceLeDiff,Nat.reduceMul,reduceCtorEq,VO,n62,Cls.emb,ei,decide_false,cD,cm,List.length_singleton]
          refine ⟨by decide,fun d hd=>?_⟩
          have hd2:=Option.some.inj hd
          rw [← hd2]
          refine fU ?_
          refine .mk (.mk k1 p1 a1 y1 c1 e1) ⟨me0.1,by rw [hsE];simp only [Bool.false_eq_true,if_false];rw [hsq]⟩ me0.2 trivial (by repeat first | exact Zf.turn _ rfl | refine Zf.put rfl ?_) OI
      ·have ek:=eq_false hk
       try simp only [go_sem,Int.reduceEq,Int.reduceLT,Int.reduceLE,↓reduceIte,Nat.reduceEqDiff,Nat.reduceAdd,Nat.reduceSub,Nat.reduceLT,Nat.reduceLeDiff,Nat.reduceMul,reduceCtorEq,VO,ek,decide_false]
       refine (MQ p .none 2 (.inl rfl)).use ?_
       refine eD ?_
       have:TI (.mk k p a y c e) args=p:=by simp only [TI,if_neg hk]
       rw [this]
       exact fm
end Go.Vx
end
section
set_option maxRecDepth 100000
namespace Go.Vx
open Go.Proofs
theorem Y0.elems {σ σ':Store}{rt:Rt}{s:Nat}{es es':List (List AV)}(h0:∀ w,Zo σ w→Zo σ' w∧Ev σ w σ' w)(hl:es.length=es'.length)
 (h:∀ (i:Nat) (e e':List AV),es[i]?=some e→es'[i]?=some e'→e.length=e'.length∧∀ (j:Nat) (c c':AV),e[j]?=some c→e'[j]?=some c'→Y0 c σ c' σ'):Y0 (.list rt s es) σ (.list rt s es') σ':=by
 intro w v ho hv
 obtain ⟨o1,e1⟩:=h0 w ho
 refine ⟨?_,o1,e1⟩
 cases hv with
 | list _ _ _ cap a b o rd hcap hlim hsz ha hr h1 h2 =>
   have hget:∀ (i:Nat) (e':List AV),es'[i]?=some e'→∃ e,es[i]?=some e:=fun i e' h=>⟨_,List.getElem?_eq_getElem (by rw [hl];exact (List.getElem?_eq_some_iff.1 h).1)⟩
   rw [hl]
   refine .list rt s es' cap a b o rd (by rw [← hl];exact hcap) (by rw [← hl];exact hlim) (fun i e' he'=>?_) (fun hne=>ha (fun e=>hne (List.length_eq_zero_iff.1 (by rw [← hl,e];rfl)))) (by rw [← hl];exact hr) (fun i e' j c' he' hc'=>?_) (fun i e' j c' he' hc'=>?_)
   ·obtain ⟨e,he⟩:=hget i e' he'
    rw [← (h i e e' he he').1];exact hsz i e he
   ·obtain ⟨e,he⟩:=hget i e' he'
    obtain ⟨hl2,_⟩:=h i e e' he he'
    obtain ⟨c,hc⟩:∃ c,e[j]?=some c:=⟨_,List.getElem?_eq_getElem (by rw [hl2];exact (List.getElem?_eq_some_iff.1 hc').1)⟩
    obtain ⟨hn,hcell,h1c⟩:=h1 i e j c he hc
    exact ⟨fun hlv=>hn (e1.live _ _ (World.block_lt_of_cell? w _ hcell) hlv),hcell,h1c⟩
   ·obtain ⟨e,he⟩:=hget i e' he'
    obtain ⟨hl2,hw⟩:=h i e e' he he'
    obtain ⟨c,hc⟩:∃ c,e[j]?=some c:=⟨_,List.getElem?_eq_getElem (by rw [hl2];exact (List.getElem?_eq_some_iff.1 hc').1)⟩
    exact (hw j c c' hc hc' w _ ho (h2 i e j c he hc)).1
theorem Ku (S:Store)(b:Nat):∀ w,Zo S w→Zo (S.del b) w∧Ev S w (S.del b) w:=fun w ho=>⟨ho.sub (XQ S b),(XQ S b).ev w⟩
theorem WC.put {fr:Fr}{σ σ':Store}{k:Nat}{v v':AV}(hk:fr k=v)(h:Y0 v σ v' σ')(h0:∀ w,Zo σ w→Zo σ' w∧Ev σ w σ' w):WC fr σ (fr.put k v') σ':=by
 intro n w tmps ho hf
 obtain ⟨o1,e1⟩:=h0 w ho
 refine ⟨o1,⟨hf.size,fun i hi=>?_⟩,e1⟩
 by_cases e:i=k
 ·subst e;simp only [Fr.put,if_true]
  have:=hf.slot i hi
  rw [hk] at this
  exact (h w _ ho this).1
 ·simp only [Fr.put,e,if_false];exact (hf.slot i hi).ev e1
theorem LV.freezeAt {σ0 S:Store}{v:AV}{sz i b:Nat}{cs:List AV}{es:List (List AV)}{e e':List AV}(h:LV σ0 S v sz es)(he:es[i]?=some e)(hb:S.get b=some (.cells cs))(hl:e.length=e'.length)
 (hs:∀ (j:Nat) (c c':AV),e[j]?=some c→e'[j]?=some c'→Y0 c S c' (S.del b)):∃ v',Y0 v S v' (S.del b)∧LV σ0 (S.del b) v' sz (es.set i e'):=by
 obtain ⟨rt,s',rfl,hz,ht⟩:=h
 refine ⟨.list rt s' (es.set i e'),Y0.elems (Ku S b) (by simp) (fun k a a' ha ha'=>?_),rt,s',rfl,hz.imp id (fun h=>by rw [h];rfl),ht.imp (fun h=>⟨h.1,by rw [h.2];rfl⟩) (fun ⟨tb,e0,c,h1,h2,h3,h4⟩=>⟨tb,e0,c,h1,h2,by rw [Y6 (fun q=>by rw [q,hb] at h3;cases h3)];exact h3,h4⟩)⟩
 by_cases hk:k=i
 ·subst hk
  rw [he] at ha;injection ha with ha;subst ha
  have hil:=(List.getElem?_eq_some_iff.1 he).1
  rw [List.getElem?_set_self hil] at ha';injection ha' with ha';subst ha'
  exact ⟨hl,hs⟩
 ·rw [List.getElem?_set_ne (Ne.symm hk),ha] at ha';injection ha' with ha';subst ha'
  exact ⟨rfl,fun j c c' hc hc'=>by rw [hc] at hc';injection hc' with hc';subst hc';exact .of (.refl _) (XQ S b)⟩
theorem Has.del {σ S:Store}(h:Has σ S){b:Nat}(hb:Zx σ b):Has σ (S.del b):=fun p hp=>by
 obtain ⟨k,x⟩:=p
 exact Vc (h _ hp) (Yv hb hp)
theorem Yw.del {T S:Store}{b:Nat}(hb:Zx T b):Yw T S (S.del b):=fun k x hs hk=>by
 rw [Y6 (fun e=>by rw [e,Zm hb] at hs;cases hs)];exact hk
theorem Sub.swap {p q:Nat×AObj}{σ:Store}:Sub (p::q::σ) (q::p::σ) :=
 ⟨fun x hx=>by simp only [List.mem_cons] at hx ⊢;rcases hx with h | h | h<;>simp [h],fun h=>((List.Perm.swap p q σ).map (·.1)).nodup_iff.1 h⟩
def aoG (P:Program)(mu:List Nat)(ops:Array Oper)(t:Ord)(Q:Exit→Fr→Store→Prop)(fr:Fr)(σ:Store):Option Oper→Prop
 | some o=>XJ ops o.guard fr (kDo P mu (O7 t (U6 P mu ops t)) Q σ o) (Oc (O7 t (U6 P mu ops t)) Q σ o.dst)
 | none=>False
theorem Yt (P:Program)(mu:List Nat)(ops:Array Oper)(t:Ord)(Q:Exit→Fr→Store→Prop)(fr:Fr)(σ:Store)(o:Oper):aoG P mu ops t Q fr σ (some o)=XJ ops o.guard fr (kDo P mu (O7 t (U6 P mu ops t)) Q σ o) (Oc (O7 t (U6 P mu ops t)) Q σ o.dst):=rfl
theorem Yd (P:Program)(mu:List Nat)(l:List Oper)(i:Nat)(t r:Ord)(Q:Exit→Fr→Store→Prop)(fr:Fr)(σ:Store):U6 P mu ⟨l⟩ (.alt i t r) Q fr σ=(aoG P mu ⟨l⟩ t Q fr σ l[i]?∧U6 P mu ⟨l⟩ r Q fr σ):=by
 simp only [U6,List.getElem?_toArray]
 cases l[i]?<;>rfl
def Cut (ch:List Nat)(fr:Fr)(R:Fr→Store→Prop)(T:Value→Store→Prop):Exit→Fr→Store→Prop:=fun e fr' σ'=>(e=.normal∧Zf ch fr fr'∧R fr' σ')∨∃ pv,e=.panic [{ v:=pv,recovered:=false }]∧T pv σ'
theorem AWp.cut {P:Program}{n:Nat}{ds:List Deferred}{x y:Code}{Q:Exit→Fr→Store→Prop}{fr:Fr}{σ:Store}(ch:List Nat)(R:Fr→Store→Prop)(T:Value→Store→Prop)(h1:AWp P n ds x (Cut ch fr R T) fr σ)
 (h2:∀ fr' σ',Zf ch fr fr'→R fr' σ'→AWp P n ds y Q fr' σ') (h3:∀ pv fr' σ',T pv σ'→Q (.panic [{ v:=pv,recovered:=false }]) fr' σ'):AWp P n ds (.seq x y) Q fr σ:=by
 refine .seq (h1.mono ?_)
 rintro e fr' σ' (⟨rfl,hk,hr⟩ | ⟨pv,rfl,ht⟩)
 ·exact h2 fr' σ' hk hr
 ·exact h3 pv fr' σ' ht
theorem AWp.opq {P:Program}{n:Nat}{ds:List Deferred}{c:Code}{ch:List Nat}{fr:Fr}{σ:Store}{R:Store→Fr→Store→Prop}{T:Value→Store→Prop}(k:Nat)(v:AV)(b:Nat)(x:AObj)(hk:fr k=v)(hg:σ.get b=some x)
 (h:∀ (fr0:Fr) (S0:Store),fr0 k=v→S0.get b=some x→AWp P n ds c (Cut ch fr0 (R S0) T) fr0 S0):AWp P n ds c (Cut ch fr (R σ) T) fr σ:=h fr σ hk hg
structure RB where
 row:Row
 blk:Nat
 cap:Nat
 rest:List AV
def rbE (x:RB):List AV:=[vi x.row.pick.rule,vi x.row.pick.alt,.val (.slice (some ⟨x.blk,0,none⟩) x.row.classes.length x.cap)]
def Lk (σ S:Store)(x:RB):Prop:=S.get x.blk=some (.cells ((cA x.row.classes).flatten++x.rest))∧Zx σ x.blk∧x.row.classes.length≤x.cap∧x.row.classes.length≤137438953472
theorem N8 {σ S:Store}{x:RB}(h:Lk σ S x):∀ (j:Nat) (c c':AV),(rbE x)[j]?=some c→x.row.emb[j]?=some c'→Y0 c S c' (S.del x.blk):=by
 obtain ⟨h1,h2,h3,h4⟩:=h
 intro j c c' hc hc'
 match j with
 | 0=>simp [rbE,Row.emb] at hc hc';subst hc;subst hc';exact .of (.refl _) (XQ _ _)
 | 1=>simp [rbE,Row.emb] at hc hc';subst hc;subst hc';exact .of (.refl _) (XQ _ _)
 | 2 =>
   simp [rbE,Row.emb] at hc hc';subst hc;subst hc'
   refine dt (es:=cA x.row.classes) (sz:=2) h1 (cS _) h3 (by simp only [lim];exact h4) (fun i e he=>dh _ e (List.mem_of_getElem? he)) ?_ (dJ _)
   have hfl:=Px (dh x.row.classes)
   rw [cS] at hfl
   rw [← hfl,List.take_append_of_le_length (Nat.le_refl _),List.take_of_length_le (Nat.le_refl _)]
 | j+3=>simp [rbE] at hc
theorem QV (l:List Cls)(rest:List AV)(a:Nat)(c:Cls)(ha:a<l.length):Yu ((cA l).flatten++rest) (a * 2) c.emb=(cA (l.set a c)).flatten++rest:=by
 have hsp:l=l.take a++l[a]::l.drop (a+1):=by rw [List.getElem_cons_drop,List.take_append_drop]
 have hset:l.set a c=l.take a++c::l.drop (a+1):=by rw [List.set_eq_take_append_cons_drop,if_pos ha]
 have fa:∀ x y:List Cls,(cA (x++y)).flatten=(cA x).flatten++(cA y).flatten:=fun x y=>by simp [cA]
 have fc:∀ (x:Cls) (y:List Cls),(cA (x::y)).flatten=x.emb++(cA y).flatten:=fun x y=>by simp [cA]
 have hln:(cA (l.take a)).flatten.length=a * 2:=by rw [Px (dh _),cS,List.length_take,Nat.min_eq_left (by omega)]
 rw [hset]
 conv=>lhs;rw [hsp]
 rw [fa,fa,fc,fc,← hln]
 unfold Yu
 generalize (cA (l.take a)).flatten=A
 generalize (cA (l.drop (a+1))).flatten=B
 obtain ⟨x1,x2⟩:=l[a]
 obtain ⟨c1,c2⟩:=c
 simp [Cls.emb,List.drop_append,List.take_append]
end Go.Vx
end
