/- Part Q33 of the proof of treeMoreProved: the walk of the program on abstract values, and the plain law. -/
import Derived.Test.YtmedmnondjmleaaGreatQ32
import Derived.Test.YtmedmnondjmleaaGreatQ30
import Derived.Test.YtmedmnondjmleaaGreatQ14
set_option linter.unusedVariables false
set_option linter.unusedSimpArgs false
section
set_option maxRecDepth 100000
namespace Go.Vx
open Go.Proofs
theorem VW:(Zh Tryz.prog 30=some 6)∧(Ze Tryz.prog 30=some true)∧(ZE Tryz.prog 30 0=some 0)∧(Zh Tryz.prog 3=some 1)∧(Ze Tryz.prog 3=some false)∧(ZE Tryz.prog 30 2=some 2)∧(ZB Tryz.prog 33=some 52)∧(Zh Tryz.prog 52=some 4)∧(Ze Tryz.prog 52=some true)∧(Zl Tryz.prog 107=some (.agg #[(.bool false),(.string ⟨#[]⟩)]))∧(Zh Tryz.prog 107=some 2)∧(ZE Tryz.prog 30 4=some 4)∧(Zh Tryz.prog 28=some 1)∧(Ze Tryz.prog 28=some false)∧(ZE Tryz.prog 107 0=some 0)∧(Zh Tryz.prog 4=some 1)∧(Ze Tryz.prog 4=some false)∧(ZE Tryz.prog 30 3=some 3)∧(Zh Tryz.prog 27=some 1)∧(Ze Tryz.prog 27=some false)∧(ZB Tryz.prog 27=some 30)∧(ZB Tryz.prog 28=some 114)∧(Zh Tryz.prog 114=some 7)∧(ZE Tryz.prog 114 1=some 1)∧(ZE Tryz.prog 30 5=some 5)∧(ZE Tryz.prog 30 1=some 1)∧(Zh Tryz.prog 26=some 1)∧(Ze Tryz.prog 26=some false)∧(Tryz.prog.underlying 33=some (.slice 52)):=by
 refine ⟨?_,?_,?_,?_,?_,?_,?_,?_,?_,?_,?_,?_,?_,?_,?_,?_,?_,?_,?_,?_,?_,?_,?_,?_,?_,?_,?_,?_,?_⟩<;>first | trivial | kernel_rfl
theorem az:(Zh Tryz.prog 52=some 4)∧(Ze Tryz.prog 52=some true):=by
 refine ⟨?_,?_⟩<;>first | trivial | kernel_rfl
theorem BI:(ZE Tryz.prog 107 0=some 0)∧(Zh Tryz.prog 4=some 1)∧(Ze Tryz.prog 4=some false)∧(ZE Tryz.prog 114 0=some 0)∧(Zh Tryz.prog 9=some 1)∧(Ze Tryz.prog 9=some false)∧(ZE Tryz.prog 107 1=some 1):=by
 refine ⟨?_,?_,?_,?_,?_,?_,?_⟩<;>first | trivial | kernel_rfl
def bQ (n:Int):Tr→Prop
 | .mk k p a y c e=>(k=1∧a=0∧y=[]∧c=[]∧e=[]∧Tt VO p=true)∨(k=2∧0≤a∧a<n∧p=[]∧(∃ y0,y=[y0])∧(∃ e0,e=[e0])∧SM c=false)
inductive Shp (n:Int):Tr→Prop where
 | mk (t:Tr) (h:bQ n t) (hp:∀ x∈Ya t,Shp n x):Shp n t
theorem QO {n:Int}:∀ (l:List Tr) (q:Bool×ML),(Yk n l q).1=true→q.1=true∧∀ x∈l,∃ q',(frm n x q').1=true
 | [],q,h=>⟨h,by simp⟩
 | t::r,q,h=>by
   simp only [Yk] at h
   split at h
   ·rename_i hq
    obtain ⟨h1,h2⟩:=QO r _ h
    exact ⟨hq,fun x hx=>(List.mem_cons.1 hx).elim (fun e=>e ▸ ⟨_,h1⟩) (h2 x)⟩
   ·rename_i hq;exact absurd h hq
theorem JP (n:Int)(t:Tr):∀ q,(frm n t q).1=true→Shp n t:=by
 refine VT (M:=fun t=>∀ q,(frm n t q).1=true→Shp n t) (fun t ih q h=>?_) t
 obtain ⟨k,p,a,y,c,e⟩:=t
 rw [Ku] at h
 split at h
 ·rename_i hk
  simp only [Ya,Bool.and_eq_true,decide_eq_true_eq,List.length_append,List.length_map] at h
  obtain ⟨⟨h1,h2⟩,h3⟩:=h
  have hy:y=[]:=List.length_eq_zero_iff.1 (by omega)
  have he:e=[]:=List.length_eq_zero_iff.1 (by omega)
  have hc:c=[]:=List.length_eq_zero_iff.1 (by omega)
  subst hy;subst he;subst hc
  exact .mk _ (.inl ⟨hk,h1,rfl,rfl,rfl,h3⟩) (by simp [Ya])
 ·split at h
  ·rename_i hk
   split at h
   ·simp at h
   ·rename_i hb
    simp only [Bool.or_eq_true,not_or,Bool.not_eq_true,W5,Bool.or_eq_false_iff,decide_eq_false_iff_not,Decidable.not_not] at hb
    obtain ⟨⟨⟨⟨⟨⟨⟨b1,b2⟩,b3⟩,b4⟩,b5⟩,b6⟩,b7⟩,b8⟩:=hb
    refine .mk _ (.inr ⟨hk,by omega,by omega,List.length_eq_zero_iff.1 (by omega),List.length_eq_one_iff.1 b4,List.length_eq_one_iff.1 b5,b8⟩) (fun x hx=>?_)
    obtain ⟨q',hq'⟩:=(QO _ _ h).2 x hx
    exact ih x (XQ hx) q' hq'
  ·simp at h
theorem Qa {s:Str}{args:List Tm}{d:List Pick}:∀ (c:List Cs),(∀ q∈c,q.name≠s)→WY s args d c=d
 | [],_=>rfl
 | q::r,h=>by simp only [WY];rw [if_neg (h q List.mem_cons_self)];exact Qa r (fun x hx=>h x (List.mem_cons_of_mem _ hx))
theorem N6 {s:Str}{args:List Tm}{d:List Pick}:∀ (c:List Cs) (i:Nat) (q:Cs),c[i]?=some q→q.name=s→(∀ (j:Nat) (x:Cs),j<i→c[j]?=some x→x.name≠s)→WY s args d c=WC q.tree args
 | [],i,q,h,_,_=>by simp at h
 | a::r,0,q,h,hn,_=>by simp at h;subst h;simp only [WY,if_pos hn];cases a;rfl
 | a::r,i+1,q,h,hn,hj=>by
   simp only [WY]
   rw [if_neg (hj 0 a (by omega) rfl)]
   exact N6 r i q (by simpa using h) hn (fun j x hji hx=>hj (j+1) x (by omega) (by simpa using hx))
theorem Ie (t:Tm):Pur Tryz.prog 59 [.agg t.emb] (vb (!decide (WL t=0))):=by
 intro σ
 have h:=JA t
 obtain ⟨k,n,s,l⟩:=t
 simp only [cg] at h ⊢
 refine Zb [] [] Tryz.func59 rfl (by kernel_rfl) ?_;rw [Tryz.ntmps59,Tryz.results59]
 refine gK ?_
 refine h.use ?_
 refine gK ?_
 exact Zv
theorem GC (l:List Tm)(rt:Rt)(s:Nat)(hs:s=4∨l=[]):Pur Tryz.prog 58 [.list rt s (cw l),.val (.func (.func 59) #[] #[])] (vb (!Ul l)):=by
 intro σ
 have h:=Ry (.func (.func 59) #[] #[]) rt s (cw l) (fun _=>σ) (fun i=>match l[i]? with | some t=>!decide (WL t=0) | none=>false) (hs.imp id (fun h=>by rw [h];rfl)) (fun i e he=>by obtain ⟨t,_,rfl⟩:=cL he;cases t;rfl)
  (fun i e he _=>by
   obtain ⟨t,ht,rfl⟩:=cL he
   rw [Y8]
   simp only [ht]
   exact (Ie t) σ)
 refine h.mono fun x σ' hx=>?_
 refine hx.one ?_
 rw [bX]
 have:(!Ul l)=l.any (fun t=>!decide (WL t=0)):=by
  unfold Ul;rw [List.any_eq_not_all_not];simp
 rw [this,List.any_eq_true]
 constructor
 ·rintro ⟨n,hn,hb⟩
  obtain ⟨i,hi,rfl⟩:=List.getElem_of_mem hn
  exact ⟨i,hi,by simp only [List.getElem?_eq_getElem hi];exact hb⟩
 ·rintro ⟨i,hi,hb⟩
  simp only [List.getElem?_eq_getElem hi] at hb
  exact ⟨_,List.getElem_mem hi,hb⟩
def GE (b:Nat):Value:=.func (.func 64) #[] #[.pointer (some ⟨b,0,none⟩)]
theorem Id (c:Cs)(cl:Cls)(b:Nat)(σ:Store)(g:σ.get b=some (.cells cl.emb)):Zi Tryz.prog 64 [.agg c.emb,.val (.pointer (some ⟨b,0,none⟩))] σ (Yn (vb (!cl.any&&decide (c.name=cl.name))) σ):=by
 obtain ⟨s,t⟩:=c
 obtain ⟨k,p,a,y,cc,e⟩:=t
 obtain ⟨ca,cn⟩:=cl
 simp only [dl,Cls.emb] at g ⊢
 refine Zb [] [] Tryz.func64 rfl (by kernel_rfl) ?_;rw [Tryz.ntmps64,Tryz.results64]
 refine eZ ?_
 cases ca with
 | true =>
   refine eZ ?_
   exact Zz (by simp)
 | false =>
   refine eZ ?_
   exact Zz (by simp only [Cs.name,Bool.not_false,Bool.true_and];exact decide_eq_decide.2 Iff.rfl)
theorem GD (c:List Cs)(cl:Cls)(b:Nat)(σ:Store)(g:σ.get b=some (.cells cl.emb)):Zi Tryz.prog 63 [.list .none 7 (cH c),.val (GE b)] σ
 (fun r σ'=>σ'=σ∧((∃ (i:Nat) (q:Cs),c[i]?=some q∧cl.any=false∧q.name=cl.name∧(∀ (j:Nat) (x:Cs),j<i→c[j]?=some x→x.name≠cl.name)∧r=.ret (vi i))∨((cl.any=false→∀ q∈c,q.name≠cl.name)∧r=.ret (vi (-1))))):=by
 have h:=UH (GE b) .none 7 (cH c) (fun _=>σ) (fun i=>match c[i]? with | some q=>!cl.any&&decide (q.name=cl.name) | none=>false) (.inl rfl) (fun i e he=>by obtain ⟨t,_,rfl⟩:=cX he;exact t.emb_len)
  (fun i e he _=>by
   obtain ⟨q,hq,rfl⟩:=cX he
   unfold GE
   rw [Y8]
   simp only [hq]
   exact Id q cl b σ g)
 refine h.mono fun x σ' hx=>?_
 rcases hx with ⟨i,hi,hb,hn,rfl,rfl⟩ | ⟨hn,rfl,rfl⟩
 ·rw [cG] at hi
  simp only [List.getElem?_eq_getElem hi,Bool.and_eq_true,Bool.not_eq_true',decide_eq_true_eq] at hb
  refine ⟨rfl,.inl ⟨i,c[i],List.getElem?_eq_getElem hi,hb.1,hb.2,fun j x hj hx he=>?_,rfl⟩⟩
  have:=hn j hj
  simp only [hx,hb.1,he] at this
  simp at this
 ·refine ⟨rfl,.inr ⟨fun ha q hq he=>?_,rfl⟩⟩
  obtain ⟨i,hi,rfl⟩:=List.getElem_of_mem hq
  have:=hn i (by rw [cG];exact hi)
  simp only [List.getElem?_eq_getElem hi,ha,he] at this
  simp at this
theorem OJ {a b:Nat}{x y:AObj}{σ:Store}:Sub ((b,y)::σ) ((a,x)::(b,y)::σ):=(Sub.refl _).skip _
theorem Wy (t:Tr)(args:List Tm)(hB:trN t≤bigN)(rt:Rt)(s:Nat)(hs:s=4∨args=[]):Pur Tryz.prog 17 [.agg t.emb,.list rt s (cw args)] (.tup [.list .none 2 (cj (Yy t args).1),vi (Yy t args).2]):=by
 intro σ
 have hif:=QB (args.length:Nat) (by omega) t hB
 have hraw:=GC args rt s hs
 have hshp:=fun (h:YW t (args.length:Nat)=true)=>JP (args.length:Nat) t ([],0) (by unfold YW at h;simp only [Bool.and_eq_true] at h;exact h.2)
 obtain ⟨T,hT⟩:∃ T,T=Yy t args:=⟨_,rfl⟩
 rw [← hT]
 unfold Yy at hT
 obtain ⟨k,p,a,y,c,e⟩:=t
 simp only [ck] at hif ⊢
 refine Zb [2] [] Tryz.func17 rfl (by kernel_rfl) ?_;rw [Tryz.ntmps17,Tryz.results17]
 refine gI ?_
 intro b2 hb2
 by_cases h8:8<args.length
 ·have e8:((8:Int)<((args.length:Nat):Int))=True:=eq_true (by omega)
  rw [if_pos (.inl h8)] at hT
  try simp only [go_sem,Int.reduceEq,Int.reduceLT,Int.reduceLE,↓reduceIte,Nat.reduceEqDiff,Nat.reduceAdd,Nat.reduceSub,Nat.reduceLT,Nat.reduceLeDiff,Nat.reduceMul,reduceCtorEq,VW,bX,e8,decide_true]
  subst hT
  exact ig
 ·have e8:((8:Int)<((args.length:Nat):Int))=False:=eq_false (by omega)
  try simp only [go_sem,Int.reduceEq,Int.reduceLT,Int.reduceLE,↓reduceIte,Nat.reduceEqDiff,Nat.reduceAdd,Nat.reduceSub,Nat.reduceLT,Nat.reduceLeDiff,Nat.reduceMul,reduceCtorEq,VW,bX,e8,decide_false]
  refine hraw.use ?_
  cases hr:Ul args with
  | false =>
    rw [if_pos (.inr hr)] at hT
    refine ez ?_
    subst hT
    exact ig
  | true =>
    rw [if_neg (by simp [hr];omega)] at hT
    refine gI ?_
    refine hif.use ?_
    cases hf:YW (.mk k p a y c e) (args.length:Nat) with
    | false =>
      rw [if_pos hf] at hT
      refine ez ?_
      subst hT
      exact ig
    | true =>
      rw [if_neg (by simp [hf])] at hT
      subst hT
      have hsh:=hshp hf
      clear hshp hif hraw hf
      refine ez ?_
      refine Zw (mu:=[2]) (dr:=[]) [6,7,20,21,22,23,24,25,26,27,28,29,30,31,32,33,34,35,36,37,38,39,40,41,42,43,44,45,46,47,48,49,50,51,52] (fun _:Tr=>[]) (fun t=>(b2,.cells t.emb)::σ) (fun t=>Shp (args.length:Nat) t∧WC t args=WC (.mk k p a y c e) args) trN (.mk k p a y c e) (by kernel_rfl) ⟨hsh,rfl⟩ trivial (.refl _) ?_
      rintro ⟨k,p,a,y,c,e⟩ ⟨hsh,hsel⟩
      rw [← hsel]
      cases hsh with
      | mk _ h1 hp =>
      simp only [ck]
      by_cases hk:k=2
      ·have ek:=eq_true hk
       rcases h1 with ⟨q,_⟩ | ⟨_,ha0,han,hp0,⟨y0,rfl⟩,⟨e0,rfl⟩,hbc⟩
       ·exact absurd (q.symm.trans hk) (by decide)
       obtain ⟨ai,rfl⟩:∃ ai:Nat,a=ai:=⟨a.toNat,by omega⟩
       obtain ⟨tm,htm⟩:∃ tm,args[ai]?=some tm:=⟨_,List.getElem?_eq_getElem (by omega)⟩
       have hsE:WC (.mk k p (ai:Nat) [y0] c [e0]) args=if (Xh tm).any then WC y0 args else WY (Xh tm).name args (WC e0 args) c:=by
        simp only [WC,Jv,Int.toNat_natCast,htm,if_pos hk]
       have hnx:∀ x,x∈Ya (.mk k p (ai:Nat) [y0] c [e0])→Shp (args.length:Nat) x∧trN x<trN (.mk k p (ai:Nat) [y0] c [e0]):=fun x hx=>⟨hp x hx,XQ hx⟩
       have my0:=hnx y0 (by simp [Ya])
       have me0:=hnx e0 (by simp [Ya])
       have mc0:=fun (q:Cs) (hq:q∈c)=>hnx q.tree (by simp only [Ya,List.mem_append,List.mem_map];exact .inr ⟨q,hq,rfl⟩)
       try simp only [go_sem,Int.reduceEq,Int.reduceLT,Int.reduceLE,↓reduceIte,Nat.reduceEqDiff,Nat.reduceAdd,Nat.reduceSub,Nat.reduceLT,Nat.reduceLeDiff,Nat.reduceMul,reduceCtorEq,VW,ek,decide_true,bX]
       refine ⟨?_,by omega,by omega,fun d hd=>?_⟩
       ·rcases hs with hs | hs
        ·rw [hs]
        ·rw [hs] at htm;simp at htm
       rw [Int.toNat_natCast] at hd
       obtain ⟨tm',htm',rfl⟩:=cL hd
       rw [htm] at htm';injection htm' with htm';subst htm'
       have hcl:=Hq tm
       obtain ⟨⟨ca,cn⟩,hCl⟩:∃ q,q=Xh tm:=⟨_,rfl⟩
       rw [← hCl] at hcl hsE
       obtain ⟨tk,tn,ts,tl⟩:=tm
       simp only [cg,Cls.emb] at hcl ⊢
       refine ez ?_
       refine hcl.use ?_
       refine ez ?_
       intro b6 hb6
       have n62:b6≠b2:=Ne.symm hb6.1
       try simp only [go_sem,Int.reduceEq,Int.reduceLT,Int.reduceLE,↓reduceIte,Nat.reduceEqDiff,Nat.reduceAdd,Nat.reduceSub,Nat.reduceLT,Nat.reduceLeDiff,Nat.reduceMul,reduceCtorEq,VW,n62]
       refine (GD c ⟨ca,cn⟩ b6 _ (Zj _ _ _)).mono ?_
       rintro r σ' ⟨rfl,hr⟩
       cases ca with
       | true =>
         obtain ⟨k1,p1,a1,y1,c1,e1⟩:=y0
         rcases hr with ⟨i,q,hq,ha,_⟩ | ⟨_,rfl⟩
         ·cases ha
         ·try simp only [go_sem,Int.reduceEq,Int.reduceLT,Int.reduceLE,↓reduceIte,Nat.reduceEqDiff,Nat.reduceAdd,Nat.reduceSub,Nat.reduceLT,Nat.reduceLeDiff,Nat.reduceMul,reduceCtorEq,VW,n62,Cls.emb,cm,ck,List.length_singleton]
          refine ⟨by decide,fun d hd=>?_⟩
          have hd2:=Option.some.inj hd
          rw [← hd2]
          refine fR ?_
          refine .mk (.mk k1 p1 a1 y1 c1 e1) ⟨my0.1,by rw [hsE];rfl⟩ my0.2 trivial (by repeat first | exact Zg.turn _ rfl | refine Zg.put rfl ?_) OJ
       | false =>
         rcases hr with ⟨i,q,hq,_,hqn,hqj,rfl⟩ | ⟨hno,rfl⟩
         ·have ei:((0:Int)≤(i:Nat))=True:=eq_true (by omega)
          have hqm:=mc0 q (List.mem_of_getElem? hq)
          have hsq:=N6 (d:=WC e0 args) (args:=args) c i q hq hqn hqj
          try simp only [go_sem,Int.reduceEq,Int.reduceLT,Int.reduceLE,↓reduceIte,Nat.reduceEqDiff,Nat.reduceAdd,Nat.reduceSub,Nat.reduceLT,Nat.reduceLeDiff,Nat.reduceMul,reduceCtorEq,VW,n62,Cls.emb,ei,decide_true,cG]
          have hil:=(List.getElem?_eq_some_iff.1 hq).1
          refine ⟨by omega,fun d hd=>?_⟩
          rw [Int.toNat_natCast] at hd
          obtain ⟨q',hq',rfl⟩:=cX hd
          rw [hq] at hq';injection hq' with hq';subst hq'
          obtain ⟨s1,k1,p1,a1,y1,c1,e1⟩:=q
          try simp only [go_sem,Int.reduceEq,Int.reduceLT,Int.reduceLE,↓reduceIte,Nat.reduceEqDiff,Nat.reduceAdd,Nat.reduceSub,Nat.reduceLT,Nat.reduceLeDiff,Nat.reduceMul,reduceCtorEq,VW,n62,dl]
          refine .mk (.mk k1 p1 a1 y1 c1 e1) ⟨hqm.1,by rw [hsE];simp only [Bool.false_eq_true,if_false];rw [hsq];rfl⟩ hqm.2 trivial (by repeat first | exact Zg.turn _ rfl | refine Zg.put rfl ?_) OJ
         ·have ei:((0:Int)≤-1)=False:=eq_false (by omega)
          have hsq:=Qa (d:=WC e0 args) (args:=args) c (hno rfl)
          obtain ⟨k1,p1,a1,y1,c1,e1⟩:=e0
          try simp only [go_sem,Int.reduceEq,Int.reduceLT,Int.reduceLE,↓reduceIte,Nat.reduceEqDiff,Nat.reduceAdd,Nat.reduceSub,Nat.reduceLT,Nat.reduceLeDiff,Nat.reduceMul,reduceCtorEq,VW,n62,Cls.emb,ei,decide_false,cm,ck,List.length_singleton]
          refine ⟨by decide,fun d hd=>?_⟩
          have hd2:=Option.some.inj hd
          rw [← hd2]
          refine fR ?_
          refine .mk (.mk k1 p1 a1 y1 c1 e1) ⟨me0.1,by rw [hsE];simp only [Bool.false_eq_true,if_false];rw [hsq]⟩ me0.2 trivial (by repeat first | exact Zg.turn _ rfl | refine Zg.put rfl ?_) OJ
      ·have ek:=eq_false hk
       try simp only [go_sem,Int.reduceEq,Int.reduceLT,Int.reduceLE,↓reduceIte,Nat.reduceEqDiff,Nat.reduceAdd,Nat.reduceSub,Nat.reduceLT,Nat.reduceLeDiff,Nat.reduceMul,reduceCtorEq,VW,ek,decide_false]
       refine (MT p .none 2 (.inl rfl)).use ?_
       refine ez ?_
       have:WC (.mk k p a y c e) args=p:=by simp only [WC,if_neg hk]
       rw [this]
       exact fk
end Go.Vx
end
section
set_option maxRecDepth 100000
namespace Go.Vx
open Go.Proofs
theorem Y2.elems {σ σ':Store}{rt:Rt}{s:Nat}{es es':List (List AV)}(h0:∀ w,Zo σ w→Zo σ' w∧Ev σ w σ' w)(hl:es.length=es'.length)
 (h:∀ (i:Nat) (e e':List AV),es[i]?=some e→es'[i]?=some e'→e.length=e'.length∧∀ (j:Nat) (c c':AV),e[j]?=some c→e'[j]?=some c'→Y2 c σ c' σ'):Y2 (.list rt s es) σ (.list rt s es') σ':=by
 intro w v ho hv
 obtain ⟨o1,e1⟩:=h0 w ho
 refine ⟨?_,o1,e1⟩
 cases hv with
 | list _ _ _ cap a b o rd hcap hlim hsz ha hr h1 h2 =>
   have hget:∀ (i:Nat) (e':List AV),es'[i]?=some e'→∃ e,es[i]?=some e:=fun i e' h=>⟨_,List.getElem?_eq_getElem (by rw [hl];exact (List.getElem?_eq_some_iff.1 h).1)⟩
   rw [hl]
   refine .list rt s es' cap a b o rd (by rw [← hl];exact hcap) (by rw [← hl];exact hlim) (fun i e' he'=>?_) (fun hne=>ha (fun e=>hne (List.length_eq_zero_iff.1 (by rw [← hl,e];rfl)))) (by rw [← hl];exact hr) (fun i e' j c' he' hc'=>?_) (fun i e' j c' he' hc'=>?_)
   ·obtain ⟨e,he⟩:=hget i e' he'
    rw [← (h i e e' he he').1];exact hsz i e he
   ·obtain ⟨e,he⟩:=hget i e' he'
    obtain ⟨hl2,_⟩:=h i e e' he he'
    obtain ⟨c,hc⟩:∃ c,e[j]?=some c:=⟨_,List.getElem?_eq_getElem (by rw [hl2];exact (List.getElem?_eq_some_iff.1 hc').1)⟩
    obtain ⟨hn,hcell,h1c⟩:=h1 i e j c he hc
    exact ⟨fun hlv=>hn (e1.live _ _ (World.block_lt_of_cell? w _ hcell) hlv),hcell,h1c⟩
   ·obtain ⟨e,he⟩:=hget i e' he'
    obtain ⟨hl2,hw⟩:=h i e e' he he'
    obtain ⟨c,hc⟩:∃ c,e[j]?=some c:=⟨_,List.getElem?_eq_getElem (by rw [hl2];exact (List.getElem?_eq_some_iff.1 hc').1)⟩
    exact (hw j c c' hc hc' w _ ho (h2 i e j c he hc)).1
theorem Ky (S:Store)(b:Nat):∀ w,Zo S w→Zo (S.del b) w∧Ev S w (S.del b) w:=fun w ho=>⟨ho.sub (XW S b),(XW S b).ev w⟩
theorem VA.put {fr:Fr}{σ σ':Store}{k:Nat}{v v':AV}(hk:fr k=v)(h:Y2 v σ v' σ')(h0:∀ w,Zo σ w→Zo σ' w∧Ev σ w σ' w):VA fr σ (fr.put k v') σ':=by
 intro n w tmps ho hf
 obtain ⟨o1,e1⟩:=h0 w ho
 refine ⟨o1,⟨hf.size,fun i hi=>?_⟩,e1⟩
 by_cases e:i=k
 ·subst e;simp only [Fr.put,if_true]
  have:=hf.slot i hi
  rw [hk] at this
  exact (h w _ ho this).1
 ·simp only [Fr.put,e,if_false];exact (hf.slot i hi).ev e1
theorem LV.freezeAt {σ0 S:Store}{v:AV}{sz i b:Nat}{cs:List AV}{es:List (List AV)}{e e':List AV}(h:LV σ0 S v sz es)(he:es[i]?=some e)(hb:S.get b=some (.cells cs))(hl:e.length=e'.length)
 (hs:∀ (j:Nat) (c c':AV),e[j]?=some c→e'[j]?=some c'→Y2 c S c' (S.del b)):∃ v',Y2 v S v' (S.del b)∧LV σ0 (S.del b) v' sz (es.set i e'):=by
 obtain ⟨rt,s',rfl,hz,ht⟩:=h
 refine ⟨.list rt s' (es.set i e'),Y2.elems (Ky S b) (by simp) (fun k a a' ha ha'=>?_),rt,s',rfl,hz.imp id (fun h=>by rw [h];rfl),ht.imp (fun h=>⟨h.1,by rw [h.2];rfl⟩) (fun ⟨tb,e0,c,h1,h2,h3,h4⟩=>⟨tb,e0,c,h1,h2,by rw [Y9 (fun q=>by rw [q,hb] at h3;cases h3)];exact h3,h4⟩)⟩
 by_cases hk:k=i
 ·subst hk
  rw [he] at ha;injection ha with ha;subst ha
  have hil:=(List.getElem?_eq_some_iff.1 he).1
  rw [List.getElem?_set_self hil] at ha';injection ha' with ha';subst ha'
  exact ⟨hl,hs⟩
 ·rw [List.getElem?_set_ne (Ne.symm hk),ha] at ha';injection ha' with ha';subst ha'
  exact ⟨rfl,fun j c c' hc hc'=>by rw [hc] at hc';injection hc' with hc';subst hc';exact .of (.refl _) (XW S b)⟩
theorem Has.del {σ S:Store}(h:Has σ S){b:Nat}(hb:Zx σ b):Has σ (S.del b):=fun p hp=>by
 obtain ⟨k,x⟩:=p
 exact V4 (h _ hp) (YJ hb hp)
theorem YB.del {T S:Store}{b:Nat}(hb:Zx T b):YB T S (S.del b):=fun k x hs hk=>by
 rw [Y9 (fun e=>by rw [e,Zm hb] at hs;cases hs)];exact hk
theorem Sub.swap {p q:Nat×AObj}{σ:Store}:Sub (p::q::σ) (q::p::σ) :=
 ⟨fun x hx=>by simp only [List.mem_cons] at hx ⊢;rcases hx with h | h | h<;>simp [h],fun h=>((List.Perm.swap p q σ).map (·.1)).nodup_iff.1 h⟩
def aoG (P:Program)(mu:List Nat)(ops:Array Oper)(t:Ord)(Q:Exit→Fr→Store→Prop)(fr:Fr)(σ:Store):Option Oper→Prop
 | some o=>XN ops o.guard fr (kDo P mu (O8 t (Tc P mu ops t)) Q σ o) (Oc (O8 t (Tc P mu ops t)) Q σ o.dst)
 | none=>False
theorem YA (P:Program)(mu:List Nat)(ops:Array Oper)(t:Ord)(Q:Exit→Fr→Store→Prop)(fr:Fr)(σ:Store)(o:Oper):aoG P mu ops t Q fr σ (some o)=XN ops o.guard fr (kDo P mu (O8 t (Tc P mu ops t)) Q σ o) (Oc (O8 t (Tc P mu ops t)) Q σ o.dst):=rfl
theorem Yi (P:Program)(mu:List Nat)(l:List Oper)(i:Nat)(t r:Ord)(Q:Exit→Fr→Store→Prop)(fr:Fr)(σ:Store):Tc P mu ⟨l⟩ (.alt i t r) Q fr σ=(aoG P mu ⟨l⟩ t Q fr σ l[i]?∧Tc P mu ⟨l⟩ r Q fr σ):=by
 simp only [Tc,List.getElem?_toArray]
 cases l[i]?<;>rfl
def Cut (ch:List Nat)(fr:Fr)(R:Fr→Store→Prop)(T:Value→Store→Prop):Exit→Fr→Store→Prop:=fun e fr' σ'=>(e=.normal∧Zg ch fr fr'∧R fr' σ')∨∃ pv,e=.panic [{ v:=pv,recovered:=false }]∧T pv σ'
theorem AWp.cut {P:Program}{n:Nat}{ds:List Deferred}{x y:Code}{Q:Exit→Fr→Store→Prop}{fr:Fr}{σ:Store}(ch:List Nat)(R:Fr→Store→Prop)(T:Value→Store→Prop)(h1:AWp P n ds x (Cut ch fr R T) fr σ)
 (h2:∀ fr' σ',Zg ch fr fr'→R fr' σ'→AWp P n ds y Q fr' σ') (h3:∀ pv fr' σ',T pv σ'→Q (.panic [{ v:=pv,recovered:=false }]) fr' σ'):AWp P n ds (.seq x y) Q fr σ:=by
 refine .seq (h1.mono ?_)
 rintro e fr' σ' (⟨rfl,hk,hr⟩ | ⟨pv,rfl,ht⟩)
 ·exact h2 fr' σ' hk hr
 ·exact h3 pv fr' σ' ht
theorem AWp.opq {P:Program}{n:Nat}{ds:List Deferred}{c:Code}{ch:List Nat}{fr:Fr}{σ:Store}{R:Store→Fr→Store→Prop}{T:Value→Store→Prop}(k:Nat)(v:AV)(b:Nat)(x:AObj)(hk:fr k=v)(hg:σ.get b=some x)
 (h:∀ (fr0:Fr) (S0:Store),fr0 k=v→S0.get b=some x→AWp P n ds c (Cut ch fr0 (R S0) T) fr0 S0):AWp P n ds c (Cut ch fr (R σ) T) fr σ:=h fr σ hk hg
structure RB where
 row:Row
 blk:Nat
 cap:Nat
 rest:List AV
def rbE (x:RB):List AV:=[vi x.row.pick.rule,vi x.row.pick.alt,.val (.slice (some ⟨x.blk,0,none⟩) x.row.classes.length x.cap)]
def Lp (σ S:Store)(x:RB):Prop:=S.get x.blk=some (.cells ((cp x.row.classes).flatten++x.rest))∧Zx σ x.blk∧x.row.classes.length≤x.cap∧x.row.classes.length≤137438953472
theorem N9 {σ S:Store}{x:RB}(h:Lp σ S x):∀ (j:Nat) (c c':AV),(rbE x)[j]?=some c→x.row.emb[j]?=some c'→Y2 c S c' (S.del x.blk):=by
 obtain ⟨h1,h2,h3,h4⟩:=h
 intro j c c' hc hc'
 match j with
 | 0=>simp [rbE,Row.emb] at hc hc';subst hc;subst hc';exact .of (.refl _) (XW _ _)
 | 1=>simp [rbE,Row.emb] at hc hc';subst hc;subst hc';exact .of (.refl _) (XW _ _)
 | 2 =>
   simp [rbE,Row.emb] at hc hc';subst hc;subst hc'
   refine da (es:=cp x.row.classes) (sz:=2) h1 (cO _) h3 (by simp only [lim];exact h4) (fun i e he=>dc _ e (List.mem_of_getElem? he)) ?_ (dG _)
   have hfl:=SD (dc x.row.classes)
   rw [cO] at hfl
   rw [← hfl,List.take_append_of_le_length (Nat.le_refl _),List.take_of_length_le (Nat.le_refl _)]
 | j+3=>simp [rbE] at hc
theorem Q3 (l:List Cls)(rest:List AV)(a:Nat)(c:Cls)(ha:a<l.length):Yr ((cp l).flatten++rest) (a * 2) c.emb=(cp (l.set a c)).flatten++rest:=by
 have hsp:l=l.take a++l[a]::l.drop (a+1):=by rw [List.getElem_cons_drop,List.take_append_drop]
 have hset:l.set a c=l.take a++c::l.drop (a+1):=by rw [List.set_eq_take_append_cons_drop,if_pos ha]
 have fa:∀ x y:List Cls,(cp (x++y)).flatten=(cp x).flatten++(cp y).flatten:=fun x y=>by simp [cp]
 have fc:∀ (x:Cls) (y:List Cls),(cp (x::y)).flatten=x.emb++(cp y).flatten:=fun x y=>by simp [cp]
 have hln:(cp (l.take a)).flatten.length=a * 2:=by rw [SD (dc _),cO,List.length_take,Nat.min_eq_left (by omega)]
 rw [hset]
 conv=>lhs;rw [hsp]
 rw [fa,fa,fc,fc,← hln]
 unfold Yr
 generalize (cp (l.take a)).flatten=A
 generalize (cp (l.drop (a+1))).flatten=B
 obtain ⟨x1,x2⟩:=l[a]
 obtain ⟨c1,c2⟩:=c
 simp [Cls.emb,List.drop_append,List.take_append]
end Go.Vx
end
