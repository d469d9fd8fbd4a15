/- Part Q33 of the proof of treeCaughtProved: the walk of the program on abstract values, and the plain law. -/
import Derived.Test.YtmedmnondjmleaaGreatQ32
import Derived.Test.YtmedmnondjmleaaGreatQ30
import Derived.Test.YtmedmnondjmleaaGreatQ14
set_option linter.unusedVariables false
set_option linter.unusedSimpArgs false
section
set_option maxRecDepth 100000
namespace Go.Vx
open Go.Proofs
theorem tb17:(szOf Tryz.prog 30=some 6)∧(aggOf Tryz.prog 30=some true)∧(fOff Tryz.prog 30 0=some 0)∧(szOf Tryz.prog 3=some 1)∧(aggOf Tryz.prog 3=some false)∧(fOff Tryz.prog 30 2=some 2)∧(elOf Tryz.prog 33=some 52)∧(szOf Tryz.prog 52=some 4)∧(aggOf Tryz.prog 52=some true)∧(zeroOf Tryz.prog 107=some (.agg #[(.bool false),(.string ⟨#[]⟩)]))∧(szOf Tryz.prog 107=some 2)∧(fOff Tryz.prog 30 4=some 4)∧(szOf Tryz.prog 28=some 1)∧(aggOf Tryz.prog 28=some false)∧(fOff Tryz.prog 107 0=some 0)∧(szOf Tryz.prog 4=some 1)∧(aggOf Tryz.prog 4=some false)∧(fOff Tryz.prog 30 3=some 3)∧(szOf Tryz.prog 27=some 1)∧(aggOf Tryz.prog 27=some false)∧(elOf Tryz.prog 27=some 30)∧(elOf Tryz.prog 28=some 114)∧(szOf Tryz.prog 114=some 7)∧(fOff Tryz.prog 114 1=some 1)∧(fOff Tryz.prog 30 5=some 5)∧(fOff Tryz.prog 30 1=some 1)∧(szOf Tryz.prog 26=some 1)∧(aggOf Tryz.prog 26=some false)∧(Tryz.prog.underlying 33=some (.slice 52)):=by
  refine ⟨?_,?_,?_,?_,?_,?_,?_,?_,?_,?_,?_,?_,?_,?_,?_,?_,?_,?_,?_,?_,?_,?_,?_,?_,?_,?_,?_,?_,?_⟩<;>first | trivial | kernel_rfl
theorem tb59:(szOf Tryz.prog 52=some 4)∧(aggOf Tryz.prog 52=some true):=by
  refine ⟨?_,?_⟩<;>first | trivial | kernel_rfl
theorem tb64:(fOff Tryz.prog 107 0=some 0)∧(szOf Tryz.prog 4=some 1)∧(aggOf Tryz.prog 4=some false)∧(fOff Tryz.prog 114 0=some 0)∧(szOf Tryz.prog 9=some 1)∧(aggOf Tryz.prog 9=some false)∧(fOff Tryz.prog 107 1=some 1):=by
  refine ⟨?_,?_,?_,?_,?_,?_,?_⟩<;>first | trivial | kernel_rfl
def Shp1 (n:Int):Tr→Prop
  | .mk k p a y c e=>(k=1∧a=0∧y=[]∧c=[]∧e=[]∧incB cmpP p=true)∨(k=2∧0≤a∧a<n∧p=[]∧(∃ y0,y=[y0])∧(∃ e0,e=[e0])∧badC c=false)
inductive Shp (n:Int):Tr→Prop where
  | mk (t:Tr) (h:Shp1 n t) (hp:∀ x∈partsT t,Shp n x):Shp n t
theorem frmTs_true {n:Int}:∀ (l:List Tr) (q:Bool×ML),(frmTs n l q).1=true→q.1=true∧∀ x∈l,∃ q',(frm n x q').1=true
  | [],q,h=>⟨h,by simp⟩
  | t::r,q,h=>by
    simp only [frmTs] at h
    split at h
    · rename_i hq
      obtain ⟨h1,h2⟩:=frmTs_true r _ h
      exact ⟨hq,fun x hx=>(List.mem_cons.1 hx).elim (fun e=>e ▸ ⟨_,h1⟩) (h2 x)⟩
    · rename_i hq;exact absurd h hq
theorem frm_shp (n:Int)(t:Tr):∀ q,(frm n t q).1=true→Shp n t:=by
  refine trN_ind (M:=fun t=>∀ q,(frm n t q).1=true→Shp n t) (fun t ih q h=>?_) t
  obtain ⟨k,p,a,y,c,e⟩:=t
  rw [frm_eq] at h
  split at h
  · rename_i hk
    simp only [partsT,Bool.and_eq_true,decide_eq_true_eq,List.length_append,List.length_map] at h
    obtain ⟨⟨h1,h2⟩,h3⟩:=h
    have hy:y=[]:=List.length_eq_zero_iff.1 (by omega)
    have he:e=[]:=List.length_eq_zero_iff.1 (by omega)
    have hc:c=[]:=List.length_eq_zero_iff.1 (by omega)
    subst hy;subst he;subst hc
    exact .mk _ (.inl ⟨hk,h1,rfl,rfl,rfl,h3⟩) (by simp [partsT])
  · split at h
    · rename_i hk
      split at h
      · simp at h
      · rename_i hb
        simp only [Bool.or_eq_true,not_or,Bool.not_eq_true,badN,Bool.or_eq_false_iff,decide_eq_false_iff_not,Decidable.not_not] at hb
        obtain ⟨⟨⟨⟨⟨⟨⟨b1,b2⟩,b3⟩,b4⟩,b5⟩,b6⟩,b7⟩,b8⟩:=hb
        refine .mk _ (.inr ⟨hk,by omega,by omega,List.length_eq_zero_iff.1 (by omega),List.length_eq_one_iff.1 b4,List.length_eq_one_iff.1 b5,b8⟩) (fun x hx=>?_)
        obtain ⟨q',hq'⟩:=(frmTs_true _ _ h).2 x hx
        exact ih x (parts_lt hx) q' hq'
    · simp at h
theorem selCs_none {s:Str}{args:List Tm}{d:List Pick}:∀ (c:List Cs),(∀ q∈c,q.name≠s)→selCs s args d c=d
  | [],_=>rfl
  | q::r,h=>by simp only [selCs];rw [if_neg (h q List.mem_cons_self)];exact selCs_none r (fun x hx=>h x (List.mem_cons_of_mem _ hx))
theorem selCs_at {s:Str}{args:List Tm}{d:List Pick}:∀ (c:List Cs) (i:Nat) (q:Cs),c[i]?=some q→q.name=s→(∀ (j:Nat) (x:Cs),j<i→c[j]?=some x→x.name≠s)→selCs s args d c=selS q.tree args
  | [],i,q,h,_,_=>by simp at h
  | a::r,0,q,h,hn,_=>by simp at h;subst h;simp only [selCs,if_pos hn];cases a;rfl
  | a::r,i+1,q,h,hn,hj=>by
    simp only [selCs]
    rw [if_neg (hj 0 a (by omega) rfl)]
    exact selCs_at r i q (by simpa using h) hn (fun j x hji hx=>hj (j+1) x (by omega) (by simpa using hx))
theorem select1_c (t:Tm):Pur Tryz.prog 59 [.agg t.emb] (vb (!decide (rawE t=0))):=by
  intro σ
  have h:=raw_c t
  obtain ⟨k,n,s,l⟩:=t
  simp only [Tm.emb_mk] at h ⊢
  refine acalls_of [] [] Tryz.func59 rfl (by kernel_rfl) ?_;rw [Tryz.ntmps59,Tryz.results59]
  try simp only [go_sem,Int.reduceEq,Int.reduceLT,Int.reduceLE,↓reduceIte,Nat.reduceEqDiff,Nat.reduceAdd,Nat.reduceSub,Nat.reduceLT,Nat.reduceLeDiff,Nat.reduceMul,reduceCtorEq,tb59]
  refine h.use ?_
  try simp only [go_sem,Int.reduceEq,Int.reduceLT,Int.reduceLE,↓reduceIte,Nat.reduceEqDiff,Nat.reduceAdd,Nat.reduceSub,Nat.reduceLT,Nat.reduceLeDiff,Nat.reduceMul,reduceCtorEq,tb59]
  exact fin_same
theorem selRaw_c (l:List Tm)(rt:Rt)(s:Nat)(hs:s=4∨l=[]):Pur Tryz.prog 58 [.list rt s (Tm.embs l),.val (.func (.func 59) #[] #[])] (vb (!rawsB l)):=by
  intro σ
  have h:=containsFunc_Tm (.func (.func 59) #[] #[]) rt s (Tm.embs l) (fun _=>σ) (fun i=>match l[i]? with | some t=>!decide (rawE t=0) | none=>false) (hs.imp id (fun h=>by rw [h];rfl)) (fun i e he=>by obtain ⟨t,_,rfl⟩:=Tm.embs_get he;cases t;rfl)
    (fun i e he _=>by
      obtain ⟨t,ht,rfl⟩:=Tm.embs_get he
      rw [inv_of]
      simp only [ht]
      exact (select1_c t) σ)
  refine h.mono fun x σ' hx=>?_
  refine hx.one ?_
  rw [Tm.embs_len]
  have:(!rawsB l)=l.any (fun t=>!decide (rawE t=0)):=by
    unfold rawsB;rw [List.any_eq_not_all_not];simp
  rw [this,List.any_eq_true]
  constructor
  · rintro ⟨n,hn,hb⟩
    obtain ⟨i,hi,rfl⟩:=List.getElem_of_mem hn
    exact ⟨i,hi,by simp only [List.getElem?_eq_getElem hi];exact hb⟩
  · rintro ⟨i,hi,hb⟩
    simp only [List.getElem?_eq_getElem hi] at hb
    exact ⟨_,List.getElem_mem hi,hb⟩
def sel2V (b:Nat):Value:=.func (.func 64) #[] #[.pointer (some ⟨b,0,none⟩)]
theorem select2_c (c:Cs)(cl:Cls)(b:Nat)(σ:Store)(g:σ.get b=some (.cells cl.emb)):ACalls Tryz.prog 64 [.agg c.emb,.val (.pointer (some ⟨b,0,none⟩))] σ (kOnly (vb (!cl.any&&decide (c.name=cl.name))) σ):=by
  obtain ⟨s,t⟩:=c
  obtain ⟨k,p,a,y,cc,e⟩:=t
  obtain ⟨ca,cn⟩:=cl
  simp only [Cs.emb_mk,Cls.emb] at g ⊢
  refine acalls_of [] [] Tryz.func64 rfl (by kernel_rfl) ?_;rw [Tryz.ntmps64,Tryz.results64]
  try simp only [go_sem,Int.reduceEq,Int.reduceLT,Int.reduceLE,↓reduceIte,Nat.reduceEqDiff,Nat.reduceAdd,Nat.reduceSub,Nat.reduceLT,Nat.reduceLeDiff,Nat.reduceMul,reduceCtorEq,tb64,g]
  cases ca with
  | true =>
    try simp only [go_sem,Int.reduceEq,Int.reduceLT,Int.reduceLE,↓reduceIte,Nat.reduceEqDiff,Nat.reduceAdd,Nat.reduceSub,Nat.reduceLT,Nat.reduceLeDiff,Nat.reduceMul,reduceCtorEq,tb64,g]
    exact fin_b (by simp)
  | false =>
    try simp only [go_sem,Int.reduceEq,Int.reduceLT,Int.reduceLE,↓reduceIte,Nat.reduceEqDiff,Nat.reduceAdd,Nat.reduceSub,Nat.reduceLT,Nat.reduceLeDiff,Nat.reduceMul,reduceCtorEq,tb64,g]
    exact fin_b (by simp only [Cs.name,Bool.not_false,Bool.true_and];exact decide_eq_decide.2 Iff.rfl)
theorem selIdx_c (c:List Cs)(cl:Cls)(b:Nat)(σ:Store)(g:σ.get b=some (.cells cl.emb)):ACalls Tryz.prog 63 [.list .none 7 (Cs.embs c),.val (sel2V b)] σ
    (fun r σ'=>σ'=σ∧((∃ (i:Nat) (q:Cs),c[i]?=some q∧cl.any=false∧q.name=cl.name∧(∀ (j:Nat) (x:Cs),j<i→c[j]?=some x→x.name≠cl.name)∧r=.ret (vi i))∨((cl.any=false→∀ q∈c,q.name≠cl.name)∧r=.ret (vi (-1))))):=by
  have h:=indexFunc_Case (sel2V b) .none 7 (Cs.embs c) (fun _=>σ) (fun i=>match c[i]? with | some q=>!cl.any&&decide (q.name=cl.name) | none=>false) (.inl rfl) (fun i e he=>by obtain ⟨t,_,rfl⟩:=Cs.embs_get he;exact t.emb_len)
    (fun i e he _=>by
      obtain ⟨q,hq,rfl⟩:=Cs.embs_get he
      unfold sel2V
      rw [inv_of]
      simp only [hq]
      exact select2_c q cl b σ g)
  refine h.mono fun x σ' hx=>?_
  rcases hx with ⟨i,hi,hb,hn,rfl,rfl⟩ | ⟨hn,rfl,rfl⟩
  · rw [Cs.embs_len] at hi
    simp only [List.getElem?_eq_getElem hi,Bool.and_eq_true,Bool.not_eq_true',decide_eq_true_eq] at hb
    refine ⟨rfl,.inl ⟨i,c[i],List.getElem?_eq_getElem hi,hb.1,hb.2,fun j x hj hx he=>?_,rfl⟩⟩
    have:=hn j hj
    simp only [hx,hb.1,he] at this
    simp at this
  · refine ⟨rfl,.inr ⟨fun ha q hq he=>?_,rfl⟩⟩
    obtain ⟨i,hi,rfl⟩:=List.getElem_of_mem hq
    have:=hn i (by rw [Cs.embs_len];exact hi)
    simp only [List.getElem?_eq_getElem hi,ha,he] at this
    simp at this
theorem sub_two {a b:Nat}{x y:AObj}{σ:Store}:Sub ((b,y)::σ) ((a,x)::(b,y)::σ):=(Sub.refl _).skip _
theorem select_c (t:Tr)(args:List Tm)(hB:trN t≤bigN)(rt:Rt)(s:Nat)(hs:s=4∨args=[]):Pur Tryz.prog 17 [.agg t.emb,.list rt s (Tm.embs args)] (.tup [.list .none 2 (Pick.embs (selectS t args).1),vi (selectS t args).2]):=by
  intro σ
  have hif:=isFormed_c (args.length:Nat) (by omega) t hB
  have hraw:=selRaw_c args rt s hs
  have hshp:=fun (h:isFormedS t (args.length:Nat)=true)=>frm_shp (args.length:Nat) t ([],0) (by unfold isFormedS at h;simp only [Bool.and_eq_true] at h;exact h.2)
  obtain ⟨T,hT⟩:∃ T,T=selectS t args:=⟨_,rfl⟩
  rw [← hT]
  unfold selectS at hT
  obtain ⟨k,p,a,y,c,e⟩:=t
  simp only [Tr.emb_mk] at hif ⊢
  refine acalls_of [2] [] Tryz.func17 rfl (by kernel_rfl) ?_;rw [Tryz.ntmps17,Tryz.results17]
  try simp only [go_sem,Int.reduceEq,Int.reduceLT,Int.reduceLE,↓reduceIte,Nat.reduceEqDiff,Nat.reduceAdd,Nat.reduceSub,Nat.reduceLT,Nat.reduceLeDiff,Nat.reduceMul,reduceCtorEq,tb17,Tm.embs_len]
  intro b2 hb2
  by_cases h8:8<args.length
  · have e8:((8:Int)<((args.length:Nat):Int))=True:=eq_true (by omega)
    rw [if_pos (.inl h8)] at hT
    try simp only [go_sem,Int.reduceEq,Int.reduceLT,Int.reduceLE,↓reduceIte,Nat.reduceEqDiff,Nat.reduceAdd,Nat.reduceSub,Nat.reduceLT,Nat.reduceLeDiff,Nat.reduceMul,reduceCtorEq,tb17,Tm.embs_len,e8,decide_true]
    subst hT
    exact fin_pur (.tup2 (.nilA _ _ _) (.refl _)) ((Sub.refl _).skip _)
  · have e8:((8:Int)<((args.length:Nat):Int))=False:=eq_false (by omega)
    try simp only [go_sem,Int.reduceEq,Int.reduceLT,Int.reduceLE,↓reduceIte,Nat.reduceEqDiff,Nat.reduceAdd,Nat.reduceSub,Nat.reduceLT,Nat.reduceLeDiff,Nat.reduceMul,reduceCtorEq,tb17,Tm.embs_len,e8,decide_false]
    refine hraw.use ?_
    cases hr:rawsB args with
    | false =>
      rw [if_pos (.inr hr)] at hT
      try simp only [go_sem,Int.reduceEq,Int.reduceLT,Int.reduceLE,↓reduceIte,Nat.reduceEqDiff,Nat.reduceAdd,Nat.reduceSub,Nat.reduceLT,Nat.reduceLeDiff,Nat.reduceMul,reduceCtorEq,tb17]
      subst hT
      exact fin_pur (.tup2 (.nilA _ _ _) (.refl _)) ((Sub.refl _).skip _)
    | true =>
      rw [if_neg (by simp [hr];omega)] at hT
      try simp only [go_sem,Int.reduceEq,Int.reduceLT,Int.reduceLE,↓reduceIte,Nat.reduceEqDiff,Nat.reduceAdd,Nat.reduceSub,Nat.reduceLT,Nat.reduceLeDiff,Nat.reduceMul,reduceCtorEq,tb17,Tm.embs_len]
      refine hif.use ?_
      cases hf:isFormedS (.mk k p a y c e) (args.length:Nat) with
      | false =>
        rw [if_pos hf] at hT
        try simp only [go_sem,Int.reduceEq,Int.reduceLT,Int.reduceLE,↓reduceIte,Nat.reduceEqDiff,Nat.reduceAdd,Nat.reduceSub,Nat.reduceLT,Nat.reduceLeDiff,Nat.reduceMul,reduceCtorEq,tb17]
        subst hT
        exact fin_pur (.tup2 (.nilA _ _ _) (.refl _)) ((Sub.refl _).skip _)
      | true =>
        rw [if_neg (by simp [hf])] at hT
        subst hT
        have hsh:=hshp hf
        clear hshp hif hraw hf
        try simp only [go_sem,Int.reduceEq,Int.reduceLT,Int.reduceLE,↓reduceIte,Nat.reduceEqDiff,Nat.reduceAdd,Nat.reduceSub,Nat.reduceLT,Nat.reduceLeDiff,Nat.reduceMul,reduceCtorEq,tb17]
        refine aloopT (mu:=[2]) (dr:=[]) [6,7,20,21,22,23,24,25,26,27,28,29,30,31,32,33,34,35,36,37,38,39,40,41,42,43,44,45,46,47,48,49,50,51,52] (fun _:Tr=>[]) (fun t=>(b2,.cells t.emb)::σ) (fun t=>Shp (args.length:Nat) t∧selS t args=selS (.mk k p a y c e) args) trN (.mk k p a y c e) (by kernel_rfl) ⟨hsh,rfl⟩ trivial (.refl _) ?_
        rintro ⟨k,p,a,y,c,e⟩ ⟨hsh,hsel⟩
        rw [← hsel]
        cases hsh with
        | mk _ h1 hp =>
        simp only [Tr.emb_mk]
        by_cases hk:k=2
        · have ek:=eq_true hk
          rcases h1 with ⟨q,_⟩ | ⟨_,ha0,han,hp0,⟨y0,rfl⟩,⟨e0,rfl⟩,hbc⟩
          · exact absurd (q.symm.trans hk) (by decide)
          obtain ⟨ai,rfl⟩:∃ ai:Nat,a=ai:=⟨a.toNat,by omega⟩
          obtain ⟨tm,htm⟩:∃ tm,args[ai]?=some tm:=⟨_,List.getElem?_eq_getElem (by omega)⟩
          have hsE:selS (.mk k p (ai:Nat) [y0] c [e0]) args=if (classS tm).any then selS y0 args else selCs (classS tm).name args (selS e0 args) c:=by
            simp only [selS,selHd,Int.toNat_natCast,htm,if_pos hk]
          have hnx:∀ x,x∈partsT (.mk k p (ai:Nat) [y0] c [e0])→Shp (args.length:Nat) x∧trN x<trN (.mk k p (ai:Nat) [y0] c [e0]):=fun x hx=>⟨hp x hx,parts_lt hx⟩
          have my0:=hnx y0 (by simp [partsT])
          have me0:=hnx e0 (by simp [partsT])
          have mc0:=fun (q:Cs) (hq:q∈c)=>hnx q.tree (by simp only [partsT,List.mem_append,List.mem_map];exact .inr ⟨q,hq,rfl⟩)
          try simp only [go_sem,Int.reduceEq,Int.reduceLT,Int.reduceLE,↓reduceIte,Nat.reduceEqDiff,Nat.reduceAdd,Nat.reduceSub,Nat.reduceLT,Nat.reduceLeDiff,Nat.reduceMul,reduceCtorEq,tb17,ek,decide_true,Tm.embs_len]
          refine ⟨?_,by omega,by omega,fun d hd=>?_⟩
          · rcases hs with hs | hs
            · rw [hs]
            · rw [hs] at htm;simp at htm
          rw [Int.toNat_natCast] at hd
          obtain ⟨tm',htm',rfl⟩:=Tm.embs_get hd
          rw [htm] at htm';injection htm' with htm';subst htm'
          have hcl:=classOf_c tm
          obtain ⟨⟨ca,cn⟩,hCl⟩:∃ q,q=classS tm:=⟨_,rfl⟩
          rw [← hCl] at hcl hsE
          obtain ⟨tk,tn,ts,tl⟩:=tm
          simp only [Tm.emb_mk,Cls.emb] at hcl ⊢
          try simp only [go_sem,Int.reduceEq,Int.reduceLT,Int.reduceLE,↓reduceIte,Nat.reduceEqDiff,Nat.reduceAdd,Nat.reduceSub,Nat.reduceLT,Nat.reduceLeDiff,Nat.reduceMul,reduceCtorEq,tb17]
          refine hcl.use ?_
          try simp only [go_sem,Int.reduceEq,Int.reduceLT,Int.reduceLE,↓reduceIte,Nat.reduceEqDiff,Nat.reduceAdd,Nat.reduceSub,Nat.reduceLT,Nat.reduceLeDiff,Nat.reduceMul,reduceCtorEq,tb17]
          intro b6 hb6
          have n62:b6≠b2:=Ne.symm hb6.1
          try simp only [go_sem,Int.reduceEq,Int.reduceLT,Int.reduceLE,↓reduceIte,Nat.reduceEqDiff,Nat.reduceAdd,Nat.reduceSub,Nat.reduceLT,Nat.reduceLeDiff,Nat.reduceMul,reduceCtorEq,tb17,n62]
          refine (selIdx_c c ⟨ca,cn⟩ b6 _ (get_same _ _ _)).mono ?_
          rintro r σ' ⟨rfl,hr⟩
          cases ca with
          | true =>
            obtain ⟨k1,p1,a1,y1,c1,e1⟩:=y0
            rcases hr with ⟨i,q,hq,ha,_⟩ | ⟨_,rfl⟩
            · cases ha
            · try simp only [go_sem,Int.reduceEq,Int.reduceLT,Int.reduceLE,↓reduceIte,Nat.reduceEqDiff,Nat.reduceAdd,Nat.reduceSub,Nat.reduceLT,Nat.reduceLeDiff,Nat.reduceMul,reduceCtorEq,tb17,n62,Cls.emb,Tr.embs,Tr.emb_mk,List.length_singleton]
              refine ⟨by decide,fun d hd=>?_⟩
              have hd2:=Option.some.inj hd
              rw [← hd2]
              try simp only [go_sem,Int.reduceEq,Int.reduceLT,Int.reduceLE,↓reduceIte,Nat.reduceEqDiff,Nat.reduceAdd,Nat.reduceSub,Nat.reduceLT,Nat.reduceLeDiff,Nat.reduceMul,reduceCtorEq,tb17,n62,List.length_singleton]
              refine .mk (.mk k1 p1 a1 y1 c1 e1) ⟨my0.1,by rw [hsE];rfl⟩ my0.2 trivial (by repeat first | exact Keeps.turn _ rfl | refine Keeps.put rfl ?_) sub_two
          | false =>
            rcases hr with ⟨i,q,hq,_,hqn,hqj,rfl⟩ | ⟨hno,rfl⟩
            · have ei:((0:Int)≤(i:Nat))=True:=eq_true (by omega)
              have hqm:=mc0 q (List.mem_of_getElem? hq)
              have hsq:=selCs_at (d:=selS e0 args) (args:=args) c i q hq hqn hqj
              try simp only [go_sem,Int.reduceEq,Int.reduceLT,Int.reduceLE,↓reduceIte,Nat.reduceEqDiff,Nat.reduceAdd,Nat.reduceSub,Nat.reduceLT,Nat.reduceLeDiff,Nat.reduceMul,reduceCtorEq,tb17,n62,Cls.emb,ei,decide_true,Cs.embs_len]
              have hil:=(List.getElem?_eq_some_iff.1 hq).1
              refine ⟨by omega,fun d hd=>?_⟩
              rw [Int.toNat_natCast] at hd
              obtain ⟨q',hq',rfl⟩:=Cs.embs_get hd
              rw [hq] at hq';injection hq' with hq';subst hq'
              obtain ⟨s1,k1,p1,a1,y1,c1,e1⟩:=q
              try simp only [go_sem,Int.reduceEq,Int.reduceLT,Int.reduceLE,↓reduceIte,Nat.reduceEqDiff,Nat.reduceAdd,Nat.reduceSub,Nat.reduceLT,Nat.reduceLeDiff,Nat.reduceMul,reduceCtorEq,tb17,n62,Cs.emb_mk]
              refine .mk (.mk k1 p1 a1 y1 c1 e1) ⟨hqm.1,by rw [hsE];simp only [Bool.false_eq_true,if_false];rw [hsq];rfl⟩ hqm.2 trivial (by repeat first | exact Keeps.turn _ rfl | refine Keeps.put rfl ?_) sub_two
            · have ei:((0:Int)≤-1)=False:=eq_false (by omega)
              have hsq:=selCs_none (d:=selS e0 args) (args:=args) c (hno rfl)
              obtain ⟨k1,p1,a1,y1,c1,e1⟩:=e0
              try simp only [go_sem,Int.reduceEq,Int.reduceLT,Int.reduceLE,↓reduceIte,Nat.reduceEqDiff,Nat.reduceAdd,Nat.reduceSub,Nat.reduceLT,Nat.reduceLeDiff,Nat.reduceMul,reduceCtorEq,tb17,n62,Cls.emb,ei,decide_false,Tr.embs,Tr.emb_mk,List.length_singleton]
              refine ⟨by decide,fun d hd=>?_⟩
              have hd2:=Option.some.inj hd
              rw [← hd2]
              try simp only [go_sem,Int.reduceEq,Int.reduceLT,Int.reduceLE,↓reduceIte,Nat.reduceEqDiff,Nat.reduceAdd,Nat.reduceSub,Nat.reduceLT,Nat.reduceLeDiff,Nat.reduceMul,reduceCtorEq,tb17,n62,List.length_singleton]
              refine .mk (.mk k1 p1 a1 y1 c1 e1) ⟨me0.1,by rw [hsE];simp only [Bool.false_eq_true,if_false];rw [hsq]⟩ me0.2 trivial (by repeat first | exact Keeps.turn _ rfl | refine Keeps.put rfl ?_) sub_two
        · have ek:=eq_false hk
          try simp only [go_sem,Int.reduceEq,Int.reduceLT,Int.reduceLE,↓reduceIte,Nat.reduceEqDiff,Nat.reduceAdd,Nat.reduceSub,Nat.reduceLT,Nat.reduceLeDiff,Nat.reduceMul,reduceCtorEq,tb17,ek,decide_false]
          refine (clonePick_c p .none 2 (.inl rfl)).use ?_
          try simp only [go_sem,Int.reduceEq,Int.reduceLT,Int.reduceLE,↓reduceIte,Nat.reduceEqDiff,Nat.reduceAdd,Nat.reduceSub,Nat.reduceLT,Nat.reduceLeDiff,Nat.reduceMul,reduceCtorEq,tb17]
          have:selS (.mk k p a y c e) args=p:=by simp only [selS,if_neg hk]
          rw [this]
          exact fin_pur (.refl _) ((Sub.refl _).skip _)
end Go.Vx
end
section
set_option maxRecDepth 100000
namespace Go.Vx
open Go.Proofs
theorem Shift.elems {σ σ':Store}{rt:Rt}{s:Nat}{es es':List (List AV)}(h0:∀ w,StoreOk σ w→StoreOk σ' w∧Ev σ w σ' w)(hl:es.length=es'.length)
    (h:∀ (i:Nat) (e e':List AV),es[i]?=some e→es'[i]?=some e'→e.length=e'.length∧∀ (j:Nat) (c c':AV),e[j]?=some c→e'[j]?=some c'→Shift c σ c' σ'):Shift (.list rt s es) σ (.list rt s es') σ':=by
  intro w v ho hv
  obtain ⟨o1,e1⟩:=h0 w ho
  refine ⟨?_,o1,e1⟩
  cases hv with
  | list _ _ _ cap a b o rd hcap hlim hsz ha hr h1 h2 =>
    have hget:∀ (i:Nat) (e':List AV),es'[i]?=some e'→∃ e,es[i]?=some e:=fun i e' h=>⟨_,List.getElem?_eq_getElem (by rw [hl];exact (List.getElem?_eq_some_iff.1 h).1)⟩
    rw [hl]
    refine .list rt s es' cap a b o rd (by rw [← hl];exact hcap) (by rw [← hl];exact hlim) (fun i e' he'=>?_) (fun hne=>ha (fun e=>hne (List.length_eq_zero_iff.1 (by rw [← hl,e];rfl)))) (by rw [← hl];exact hr) (fun i e' j c' he' hc'=>?_) (fun i e' j c' he' hc'=>?_)
    · obtain ⟨e,he⟩:=hget i e' he'
      rw [← (h i e e' he he').1];exact hsz i e he
    · obtain ⟨e,he⟩:=hget i e' he'
      obtain ⟨hl2,_⟩:=h i e e' he he'
      obtain ⟨c,hc⟩:∃ c,e[j]?=some c:=⟨_,List.getElem?_eq_getElem (by rw [hl2];exact (List.getElem?_eq_some_iff.1 hc').1)⟩
      obtain ⟨hn,hcell,h1c⟩:=h1 i e j c he hc
      exact ⟨fun hlv=>hn (e1.live _ _ (World.block_lt_of_cell? w _ hcell) hlv),hcell,h1c⟩
    · obtain ⟨e,he⟩:=hget i e' he'
      obtain ⟨hl2,hw⟩:=h i e e' he he'
      obtain ⟨c,hc⟩:∃ c,e[j]?=some c:=⟨_,List.getElem?_eq_getElem (by rw [hl2];exact (List.getElem?_eq_some_iff.1 hc').1)⟩
      exact (hw j c c' hc hc' w _ ho (h2 i e j c he hc)).1
theorem del_ok (S:Store)(b:Nat):∀ w,StoreOk S w→StoreOk (S.del b) w∧Ev S w (S.del b) w:=fun w ho=>⟨ho.sub (del_sub S b),(del_sub S b).ev w⟩
theorem FShift.put {fr:Fr}{σ σ':Store}{k:Nat}{v v':AV}(hk:fr k=v)(h:Shift v σ v' σ')(h0:∀ w,StoreOk σ w→StoreOk σ' w∧Ev σ w σ' w):FShift fr σ (fr.put k v') σ':=by
  intro n w tmps ho hf
  obtain ⟨o1,e1⟩:=h0 w ho
  refine ⟨o1,⟨hf.size,fun i hi=>?_⟩,e1⟩
  by_cases e:i=k
  · subst e;simp only [Fr.put,if_true]
    have:=hf.slot i hi
    rw [hk] at this
    exact (h w _ ho this).1
  · simp only [Fr.put,e,if_false];exact (hf.slot i hi).ev e1
theorem LV.freezeAt {σ0 S:Store}{v:AV}{sz i b:Nat}{cs:List AV}{es:List (List AV)}{e e':List AV}(h:LV σ0 S v sz es)(he:es[i]?=some e)(hb:S.get b=some (.cells cs))(hl:e.length=e'.length)
    (hs:∀ (j:Nat) (c c':AV),e[j]?=some c→e'[j]?=some c'→Shift c S c' (S.del b)):∃ v',Shift v S v' (S.del b)∧LV σ0 (S.del b) v' sz (es.set i e'):=by
  obtain ⟨rt,s',rfl,hz,ht⟩:=h
  refine ⟨.list rt s' (es.set i e'),Shift.elems (del_ok S b) (by simp) (fun k a a' ha ha'=>?_),rt,s',rfl,hz.imp id (fun h=>by rw [h];rfl),ht.imp (fun h=>⟨h.1,by rw [h.2];rfl⟩) (fun ⟨tb,e0,c,h1,h2,h3,h4⟩=>⟨tb,e0,c,h1,h2,by rw [get_del_ne (fun q=>by rw [q,hb] at h3;cases h3)];exact h3,h4⟩)⟩
  by_cases hk:k=i
  · subst hk
    rw [he] at ha;injection ha with ha;subst ha
    have hil:=(List.getElem?_eq_some_iff.1 he).1
    rw [List.getElem?_set_self hil] at ha';injection ha' with ha';subst ha'
    exact ⟨hl,hs⟩
  · rw [List.getElem?_set_ne (Ne.symm hk),ha] at ha';injection ha' with ha';subst ha'
    exact ⟨rfl,fun j c c' hc hc'=>by rw [hc] at hc';injection hc' with hc';subst hc';exact .of (.refl _) (del_sub S b)⟩
theorem Has.del {σ S:Store}(h:Has σ S){b:Nat}(hb:Fresh σ b):Has σ (S.del b):=fun p hp=>by
  obtain ⟨k,x⟩:=p
  exact mem_del (h _ hp) (fresh_mem hb hp)
theorem KeptIn.del {T S:Store}{b:Nat}(hb:Fresh T b):KeptIn T S (S.del b):=fun k x hs hk=>by
  rw [get_del_ne (fun e=>by rw [e,fresh_get hb] at hs;cases hs)];exact hk
theorem Sub.swap {p q:Nat×AObj}{σ:Store}:Sub (p::q::σ) (q::p::σ) :=
  ⟨fun x hx=>by simp only [List.mem_cons] at hx ⊢;rcases hx with h | h | h<;>simp [h],fun h=>((List.Perm.swap p q σ).map (·.1)).nodup_iff.1 h⟩
def aoG (P:Program)(mu:List Nat)(ops:Array Oper)(t:Ord)(Q:Exit→Fr→Store→Prop)(fr:Fr)(σ:Store):Option Oper→Prop
  | some o=>aguard ops o.guard fr (kDo P mu (kOrd t (aord P mu ops t)) Q σ o) (kSkip (kOrd t (aord P mu ops t)) Q σ o.dst)
  | none=>False
theorem aoG_some (P:Program)(mu:List Nat)(ops:Array Oper)(t:Ord)(Q:Exit→Fr→Store→Prop)(fr:Fr)(σ:Store)(o:Oper):aoG P mu ops t Q fr σ (some o)=aguard ops o.guard fr (kDo P mu (kOrd t (aord P mu ops t)) Q σ o) (kSkip (kOrd t (aord P mu ops t)) Q σ o.dst):=rfl
theorem aord_altL (P:Program)(mu:List Nat)(l:List Oper)(i:Nat)(t r:Ord)(Q:Exit→Fr→Store→Prop)(fr:Fr)(σ:Store):aord P mu ⟨l⟩ (.alt i t r) Q fr σ=(aoG P mu ⟨l⟩ t Q fr σ l[i]?∧aord P mu ⟨l⟩ r Q fr σ):=by
  simp only [aord,List.getElem?_toArray]
  cases l[i]?<;>rfl
/-- A cut behind the first of two: what it leaves. -/
def Cut (ch:List Nat)(fr:Fr)(R:Fr→Store→Prop)(T:Value→Store→Prop):Exit→Fr→Store→Prop:=fun e fr' σ'=>(e=.normal∧Keeps ch fr fr'∧R fr' σ')∨∃ pv,e=.panic [{ v:=pv,recovered:=false }]∧T pv σ'
theorem AWp.cut {P:Program}{n:Nat}{ds:List Deferred}{x y:Code}{Q:Exit→Fr→Store→Prop}{fr:Fr}{σ:Store}(ch:List Nat)(R:Fr→Store→Prop)(T:Value→Store→Prop)(h1:AWp P n ds x (Cut ch fr R T) fr σ)
    (h2:∀ fr' σ',Keeps ch fr fr'→R fr' σ'→AWp P n ds y Q fr' σ') (h3:∀ pv fr' σ',T pv σ'→Q (.panic [{ v:=pv,recovered:=false }]) fr' σ'):AWp P n ds (.seq x y) Q fr σ:=by
  refine .seq (h1.mono ?_)
  rintro e fr' σ' (⟨rfl,hk,hr⟩ | ⟨pv,rfl,ht⟩)
  · exact h2 fr' σ' hk hr
  · exact h3 pv fr' σ' ht
theorem AWp.opq {P:Program}{n:Nat}{ds:List Deferred}{c:Code}{ch:List Nat}{fr:Fr}{σ:Store}{R:Store→Fr→Store→Prop}{T:Value→Store→Prop}(k:Nat)(v:AV)(b:Nat)(x:AObj)(hk:fr k=v)(hg:σ.get b=some x)
    (h:∀ (fr0:Fr) (S0:Store),fr0 k=v→S0.get b=some x→AWp P n ds c (Cut ch fr0 (R S0) T) fr0 S0):AWp P n ds c (Cut ch fr (R σ) T) fr σ:=h fr σ hk hg
/-- A row whose classes lie in a block that may be written. -/
structure RB where
  row:Row
  blk:Nat
  cap:Nat
  rest:List AV
def rbE (x:RB):List AV:=[vi x.row.pick.rule,vi x.row.pick.alt,.val (.slice (some ⟨x.blk,0,none⟩) x.row.classes.length x.cap)]
def RBok (σ S:Store)(x:RB):Prop:=S.get x.blk=some (.cells ((Cls.embs x.row.classes).flatten++x.rest))∧Fresh σ x.blk∧x.row.classes.length≤x.cap∧x.row.classes.length≤137438953472
theorem rb_shift {σ S:Store}{x:RB}(h:RBok σ S x):∀ (j:Nat) (c c':AV),(rbE x)[j]?=some c→x.row.emb[j]?=some c'→Shift c S c' (S.del x.blk):=by
  obtain ⟨h1,h2,h3,h4⟩:=h
  intro j c c' hc hc'
  match j with
  | 0=>simp [rbE,Row.emb] at hc hc';subst hc;subst hc';exact .of (.refl _) (del_sub _ _)
  | 1=>simp [rbE,Row.emb] at hc hc';subst hc;subst hc';exact .of (.refl _) (del_sub _ _)
  | 2 =>
    simp [rbE,Row.emb] at hc hc';subst hc;subst hc'
    refine Shift.freeze (es:=Cls.embs x.row.classes) (sz:=2) h1 (Cls.embs_len _) h3 (by simp only [lim];exact h4) (fun i e he=>Cls.embs_sz _ e (List.mem_of_getElem? he)) ?_ (Cls.embs_one _)
    have hfl:=flen (Cls.embs_sz x.row.classes)
    rw [Cls.embs_len] at hfl
    rw [← hfl,List.take_append_of_le_length (Nat.le_refl _),List.take_of_length_le (Nat.le_refl _)]
  | j+3=>simp [rbE] at hc
theorem cls_splice (l:List Cls)(rest:List AV)(a:Nat)(c:Cls)(ha:a<l.length):splice ((Cls.embs l).flatten++rest) (a * 2) c.emb=(Cls.embs (l.set a c)).flatten++rest:=by
  have hsp:l=l.take a++l[a]::l.drop (a+1):=by rw [List.getElem_cons_drop,List.take_append_drop]
  have hset:l.set a c=l.take a++c::l.drop (a+1):=by rw [List.set_eq_take_append_cons_drop,if_pos ha]
  have fa:∀ x y:List Cls,(Cls.embs (x++y)).flatten=(Cls.embs x).flatten++(Cls.embs y).flatten:=fun x y=>by simp [Cls.embs]
  have fc:∀ (x:Cls) (y:List Cls),(Cls.embs (x::y)).flatten=x.emb++(Cls.embs y).flatten:=fun x y=>by simp [Cls.embs]
  have hln:(Cls.embs (l.take a)).flatten.length=a * 2:=by rw [flen (Cls.embs_sz _),Cls.embs_len,List.length_take,Nat.min_eq_left (by omega)]
  rw [hset]
  conv=>lhs;rw [hsp]
  rw [fa,fa,fc,fc,← hln]
  unfold splice
  generalize (Cls.embs (l.take a)).flatten=A
  generalize (Cls.embs (l.drop (a+1))).flatten=B
  obtain ⟨x1,x2⟩:=l[a]
  obtain ⟨c1,c2⟩:=c
  simp [Cls.emb,List.drop_append,List.take_append]
end Go.Vx
end
