/- Part Q22 of the proof of treeCaughtProved: the walk of the program on abstract values, and the plain law. -/
import Derived.Test.YtmedmnondjmleaaGreatQ21
import Derived.Test.YtmedmnondjmleaaGreatQ20
import Derived.Test.YtmedmnondjmleaaGreatQ15
set_option linter.unusedVariables false
set_option linter.unusedSimpArgs false
section
set_option maxRecDepth 100000
namespace Go.Vx
open Go.Proofs
theorem tb218:(szOf Tryz.prog 226=some 1)∧(aggOf Tryz.prog 226=some false)∧(Tryz.prog.underlying 226=some (.map 3 4))∧(Tryz.prog.underlying 3=some (.int .i64))∧(zeroOf Tryz.prog 4=some (.bool false)):=by
  refine ⟨?_,?_,?_,?_,?_⟩<;>first | trivial | kernel_rfl
theorem mapU_mem {A:List Int}{e:Value×AV×Nat}:e∈embM keI (mapU A)↔∃ (i:Nat) (x:Int),A[i]?=some x∧e=(keI x,vb true,i):=by
  unfold embM mapU
  rw [List.map_map,List.mem_map]
  constructor
  · rintro ⟨⟨x,i⟩,h,rfl⟩
    rw [List.mem_zipIdx_iff_getElem?] at h
    exact ⟨i,x,h,rfl⟩
  · rintro ⟨i,x,h,rfl⟩
    exact ⟨(x,i),List.mem_zipIdx_iff_getElem?.2 h,rfl⟩
theorem mapU_add (acc:List Int)(n:Int):updL (mapU acc) n (vb true) acc.length=mapU (addU acc n)∧updC (mapU acc) n acc.length=(addU acc n).length:=by
  by_cases h:n∈acc
  · unfold updL updC addU
    rw [mapU_keys,if_pos h,if_pos h,if_pos h]
    refine ⟨?_,rfl⟩
    have:∀ e∈mapU acc,(if e.1=n then (n,vb true,e.2.2) else e)=e:=by
      intro e he
      unfold mapU at he
      obtain ⟨p,_,rfl⟩:=List.mem_map.1 he
      split
      · rename_i h;simp only at h;rw [h]
      · rfl
    calc _=(mapU acc).map id:=List.map_congr_left this
      _=_:=by simp
  · have:addU acc n=acc++[n]:=by unfold addU;rw [if_neg h]
    rw [this];exact mapU_upd acc n h
theorem mem_addU {acc:List Int}{n y:Int}:y∈addU acc n↔y=n∨y∈acc:=by
  unfold addU;split
  · rename_i h;exact ⟨.inr,fun k=>k.elim (fun e=>e ▸ h) id⟩
  · simp [or_comm]
theorem left_lt {L:Nat}{seen:List Nat}{i:Nat}(hi:i<L)(hs:i ∉ seen):((List.range L).filter (fun j=>decide (j ∉ seen++[i]))).length<((List.range L).filter (fun j=>decide (j ∉ seen))).length:=by
  have h1:(List.range L).filter (fun j=>decide (j ∉ seen++[i]))=((List.range L).filter (fun j=>decide (j ∉ seen))).filter (fun j=>decide (j≠i)):=by
    rw [List.filter_filter]
    apply List.filter_congr
    intro j _
    simp [not_or,and_comm]
  rw [h1]
  refine List.length_filter_lt_length_iff_exists.2 ⟨i,?_,by simp⟩
  simp [hi,hs]
theorem with_c (σ:Store)(r:Nat)(A:List Int)(n:Int)(g:σ.get r=some (.map (embM keI (mapU A)) A.length)) :
    ACalls Tryz.prog 216 [.val (.map (some r)),vi n] σ (fun x S'=>∃ r' A',x=.ret (.val (.map (some r')))∧Fresh σ r'∧S'=(r',.map (embM keI (mapU A')) A'.length)::σ∧∀ y,y∈A'↔y=n∨y∈A):=by
  have e0:updL (mapU []) n (vb true) 0=mapU [n]∧updC (mapU []) n 0=1:=mapU_upd [] n (by simp)
  have z0:([]:List (Value×AV×Nat))=embM keI (mapU []):=rfl
  refine acalls_of [] [] Tryz.func216 rfl (by kernel_rfl) ?_;rw [Tryz.ntmps216,Tryz.results216]
  try simp only [go_sem,Int.reduceEq,Int.reduceLT,Int.reduceLE,↓reduceIte,Nat.reduceEqDiff,Nat.reduceAdd,Nat.reduceSub,Nat.reduceLT,Nat.reduceLeDiff,Nat.reduceMul,reduceCtorEq,tb216]
  intro r1 h1
  try simp only [go_sem,Int.reduceEq,Int.reduceLT,Int.reduceLE,↓reduceIte,Nat.reduceEqDiff,Nat.reduceAdd,Nat.reduceSub,Nat.reduceLT,Nat.reduceLeDiff,Nat.reduceMul,reduceCtorEq,tb216]
  rw [z0]
  refine amapUpd_int tb216.1 tb216.2.1 (get_same _ _ _) ?_
  rw [e0.1,e0.2,set_same]
  try simp only [go_sem,Int.reduceEq,Int.reduceLT,Int.reduceLE,↓reduceIte,Nat.reduceEqDiff,Nat.reduceAdd,Nat.reduceSub,Nat.reduceLT,Nat.reduceLeDiff,Nat.reduceMul,reduceCtorEq,tb216]
  have hr1:r1≠r:=fun e=>by have:=fresh_get h1;rw [e,g] at this;cases this
  refine ⟨r,A.length,_,_,_,tb216.1,rfl,(by rw [get_other hr1];exact g),fun b2 hb2=>?_⟩
  try simp only [go_sem,Int.reduceEq,Int.reduceLT,Int.reduceLE,↓reduceIte,Nat.reduceEqDiff,Nat.reduceAdd,Nat.reduceSub,Nat.reduceLT,Nat.reduceLeDiff,Nat.reduceMul,reduceCtorEq,tb216]
  refine aloopT (mu:=[]) (dr:=[]) [6,12,13,14,15,16,17] (fun _:List Nat×List Int=>[]) (fun x=>(b2,.iter (some r) A.length x.1 A.length)::(r1,.map (embM keI (mapU x.2)) x.2.length)::σ)
    (fun x=>(∀ y∈x.2,y=n∨y∈A)∧n∈x.2∧(∀ i,i∈x.1→∀ y,A[i]?=some y→y∈x.2)) (fun x=>((List.range A.length).filter (fun j=>decide (j ∉ x.1))).length) ([],[n]) (by kernel_rfl) ⟨by simp,by simp,by simp⟩ trivial (.refl _) ?_
  rintro ⟨seen,B⟩ ⟨i1,i2,i3⟩
  simp only at i1 i2 i3
  have gr:Store.get ((b2,.iter (some r) A.length seen A.length)::(r1,.map (embM keI (mapU B)) B.length)::σ) r=some (.map (embM keI (mapU A)) A.length):=by
    rw [get_other (fun e=>by have:=fresh_get hb2.2;rw [e,g] at this;cases this),get_other hr1,g]
  try simp only [go_sem,Int.reduceEq,Int.reduceLT,Int.reduceLE,↓reduceIte,Nat.reduceEqDiff,Nat.reduceAdd,Nat.reduceSub,Nat.reduceLT,Nat.reduceLeDiff,Nat.reduceMul,reduceCtorEq,tb216]
  refine ⟨b2,r,A.length,embM keI (mapU A),seen,rfl,get_same _ _ _,gr,fun hall=>?_,fun e he hne=>?_⟩
  · try simp only [go_sem,Int.reduceEq,Int.reduceLT,Int.reduceLE,↓reduceIte,Nat.reduceEqDiff,Nat.reduceAdd,Nat.reduceSub,Nat.reduceLT,Nat.reduceLeDiff,Nat.reduceMul,reduceCtorEq,tb216]
    refine .mk (.refl _) ((Sub.refl _).skip _) ⟨r1,B,rfl,h1,rfl,fun y=>⟨i1 y,fun h=>?_⟩⟩
    rcases h with rfl | h
    · exact i2
    · obtain ⟨i,hi,rfl⟩:=List.getElem_of_mem h
      exact i3 i (hall _ (mapU_mem.2 ⟨i,A[i],List.getElem?_eq_getElem hi,rfl⟩)) _ (List.getElem?_eq_getElem hi)
  · obtain ⟨i,y,hy,rfl⟩:=mapU_mem.1 he
    simp only [set_same]
    try simp only [go_sem,Int.reduceEq,Int.reduceLT,Int.reduceLE,↓reduceIte,Nat.reduceEqDiff,Nat.reduceAdd,Nat.reduceSub,Nat.reduceLT,Nat.reduceLeDiff,Nat.reduceMul,reduceCtorEq,tb216]
    have gr2:Store.get ((b2,.iter (some r) A.length (seen++[i]) A.length)::(r1,.map (embM keI (mapU B)) B.length)::σ) r=some (.map (embM keI (mapU A)) A.length):=by
      rw [get_other (fun e=>by have:=fresh_get hb2.2;rw [e,g] at this;cases this),get_other hr1,g]
    refine ⟨b2,r,A.length,embM keI (mapU A),seen,(keI y,vb true,i),rfl,get_same _ _ _,gr2,mapU_mem.2 ⟨i,y,hy,rfl⟩,?_⟩
    try simp only [go_sem,Int.reduceEq,Int.reduceLT,Int.reduceLE,↓reduceIte,Nat.reduceEqDiff,Nat.reduceAdd,Nat.reduceSub,Nat.reduceLT,Nat.reduceLeDiff,Nat.reduceMul,reduceCtorEq,tb216,keI]
    have h12:b2≠r1:=Ne.symm hb2.1
    refine amapUpd_int (l:=mapU B) (c:=B.length) tb216.1 tb216.2.1 (by rw [get_other h12,get_same]) ?_
    obtain ⟨u1,u2⟩:=mapU_add B y
    rw [u1,u2,set_other h12,set_same]
    try simp only [go_sem,Int.reduceEq,Int.reduceLT,Int.reduceLE,↓reduceIte,Nat.reduceEqDiff,Nat.reduceAdd,Nat.reduceSub,Nat.reduceLT,Nat.reduceLeDiff,Nat.reduceMul,reduceCtorEq,tb216]
    refine .mk (seen++[i],addU B y) ⟨fun z hz=>?_,mem_addU.2 (.inr i2),fun j hj z hz=>?_⟩ (left_lt (List.getElem?_eq_some_iff.1 hy).1 hne) trivial (by repeat first | exact Keeps.turn _ rfl | refine Keeps.put rfl ?_) (.refl _)
    · rcases mem_addU.1 hz with rfl | h
      · exact .inr (List.mem_of_getElem? hy)
      · exact i1 z h
    · rcases List.mem_append.1 hj with h | h
      · exact mem_addU.2 (.inr (i3 j h z hz))
      · rw [List.mem_singleton.1 h,hy] at hz;injection hz with hz;exact mem_addU.2 (.inl hz.symm)
theorem ConR.one {b:Nat→Bool}{n:Nat}{c:Bool}{σ σ':Store}{r:ARes}(h:ConR b n (fun _=>σ) r σ')(hc:c=true↔∃ i,i<n∧b i=true):r=.ret (vb c)∧σ'=σ:=by
  rcases h with ⟨i,hi,hb,_,rfl,rfl⟩ | ⟨hn,rfl,rfl⟩
  · rw [hc.2 ⟨i,hi,hb⟩];exact ⟨rfl,rfl⟩
  · have:c=false:=by
      cases hcc:c with
      | false=>rfl
      | true=>obtain ⟨i,hi,hb⟩:=hc.1 hcc;rw [hn i hi] at hb;cases hb
    rw [this];exact ⟨rfl,rfl⟩
theorem ACalls.only {P:Program}{k:FuncId}{args:List AV}{v:AV}{σ:Store}{K:ARes→Store→Prop}(h:ACalls P k args σ (kOnly v σ))(hk:K (.ret v) σ):ACalls P k args σ K :=
  h.mono fun r σ' ⟨e,e'⟩=>by rw [e,e'];exact hk
theorem terms1_c (A:List Int)(r bc:Nat)(n:Int)(σ:Store)(gc:σ.get bc=some (.cells [.val (.map (some r))]))(g:σ.get r=some (.map (embM keI (mapU A)) A.length)) :
    ACalls Tryz.prog 222 [vi n,.val (.pointer (some ⟨bc,0,none⟩))] σ (kOnly (vb (!decide (n∈A))) σ):=by
  refine acalls_of [] [] Tryz.func222 rfl (by kernel_rfl) ?_;rw [Tryz.ntmps222,Tryz.results222]
  try simp only [go_sem,Int.reduceEq,Int.reduceLT,Int.reduceLE,↓reduceIte,Nat.reduceEqDiff,Nat.reduceAdd,Nat.reduceSub,Nat.reduceLT,Nat.reduceLeDiff,Nat.reduceMul,reduceCtorEq,tb222,gc]
  refine alook_int (z:=.bool false) tb222.2.2.1 tb222.2.2.2.1 tb222.2.2.2.2 g ?_
  rw [lkV_f,mapU_look]
  by_cases h:n∈A
  · rw [if_pos h,decide_eq_true h]
    try simp only [go_sem,Int.reduceEq,Int.reduceLT,Int.reduceLE,↓reduceIte,Nat.reduceEqDiff,Nat.reduceAdd,Nat.reduceSub,Nat.reduceLT,Nat.reduceLeDiff,Nat.reduceMul,reduceCtorEq,tb222,Option.getD_some]
    exact fin_same
  · rw [if_neg h,decide_eq_false h]
    try simp only [go_sem,Int.reduceEq,Int.reduceLT,Int.reduceLE,↓reduceIte,Nat.reduceEqDiff,Nat.reduceAdd,Nat.reduceSub,Nat.reduceLT,Nat.reduceLeDiff,Nat.reduceMul,reduceCtorEq,tb222,Option.getD_none]
    exact fin_same
theorem terms1any_c (A:List Int)(r bc:Nat)(l:List Int)(rt:Rt)(s:Nat)(hs:s=1∨l=[])(σ:Store)(gc:σ.get bc=some (.cells [.val (.map (some r))]))(g:σ.get r=some (.map (embM keI (mapU A)) A.length)) :
    ACalls Tryz.prog 217 [.list rt s (ints l),.val (.func (.func 222) #[] #[.pointer (some ⟨bc,0,none⟩)])] σ (kOnly (vb (l.any fun n=>!decide (n∈A))) σ):=by
  have h:=containsFunc_Int (.func (.func 222) #[] #[.pointer (some ⟨bc,0,none⟩)]) rt s (l.map vi) (fun _=>σ) (fun i=>match l[i]? with | some n=>!decide (n∈A) | none=>false) (hs.imp id (fun h=>by rw [h];rfl))
    (fun i e he _=>by
      obtain ⟨n,hn,rfl⟩:=mapGet he
      rw [inv_of]
      simp only [hn]
      exact terms1_c A r bc n σ gc g)
  rw [List.map_map,List.length_map] at h
  refine h.mono fun x σ' hx=>?_
  refine hx.one ?_
  rw [List.any_eq_true]
  constructor
  · rintro ⟨n,hn,hb⟩
    obtain ⟨i,hi,rfl⟩:=List.getElem_of_mem hn
    exact ⟨i,hi,by simp only [List.getElem?_eq_getElem hi];exact hb⟩
  · rintro ⟨i,hi,hb⟩
    simp only [List.getElem?_eq_getElem hi] at hb
    exact ⟨l[i],List.getElem_mem hi,hb⟩
theorem goal1_c (A:List Int)(r bc:Nat)(n:Int)(σ:Store)(gc:σ.get bc=some (.cells [.val (.map (some r))]))(g:σ.get r=some (.map (embM keI (mapU A)) A.length)) :
    ACalls Tryz.prog 218 [vi n,.val (.pointer (some ⟨bc,0,none⟩))] σ (kOnly (vb (!decide (n∈A))) σ):=by
  refine acalls_of [] [] Tryz.func218 rfl (by kernel_rfl) ?_;rw [Tryz.ntmps218,Tryz.results218]
  try simp only [go_sem,Int.reduceEq,Int.reduceLT,Int.reduceLE,↓reduceIte,Nat.reduceEqDiff,Nat.reduceAdd,Nat.reduceSub,Nat.reduceLT,Nat.reduceLeDiff,Nat.reduceMul,reduceCtorEq,tb218,gc]
  refine alook_int (z:=.bool false) tb218.2.2.1 tb218.2.2.2.1 tb218.2.2.2.2 g ?_
  rw [lkV_f,mapU_look]
  by_cases h:n∈A
  · rw [if_pos h,decide_eq_true h]
    try simp only [go_sem,Int.reduceEq,Int.reduceLT,Int.reduceLE,↓reduceIte,Nat.reduceEqDiff,Nat.reduceAdd,Nat.reduceSub,Nat.reduceLT,Nat.reduceLeDiff,Nat.reduceMul,reduceCtorEq,tb218,Option.getD_some]
    exact fin_same
  · rw [if_neg h,decide_eq_false h]
    try simp only [go_sem,Int.reduceEq,Int.reduceLT,Int.reduceLE,↓reduceIte,Nat.reduceEqDiff,Nat.reduceAdd,Nat.reduceSub,Nat.reduceLT,Nat.reduceLeDiff,Nat.reduceMul,reduceCtorEq,tb218,Option.getD_none]
    exact fin_same
theorem goal1any_c (A:List Int)(r bc:Nat)(l:List Int)(rt:Rt)(s:Nat)(hs:s=1∨l=[])(σ:Store)(gc:σ.get bc=some (.cells [.val (.map (some r))]))(g:σ.get r=some (.map (embM keI (mapU A)) A.length)) :
    ACalls Tryz.prog 217 [.list rt s (ints l),.val (.func (.func 218) #[] #[.pointer (some ⟨bc,0,none⟩)])] σ (kOnly (vb (l.any fun n=>!decide (n∈A))) σ):=by
  have h:=containsFunc_Int (.func (.func 218) #[] #[.pointer (some ⟨bc,0,none⟩)]) rt s (l.map vi) (fun _=>σ) (fun i=>match l[i]? with | some n=>!decide (n∈A) | none=>false) (hs.imp id (fun h=>by rw [h];rfl))
    (fun i e he _=>by
      obtain ⟨n,hn,rfl⟩:=mapGet he
      rw [inv_of]
      simp only [hn]
      exact goal1_c A r bc n σ gc g)
  rw [List.map_map,List.length_map] at h
  refine h.mono fun x σ' hx=>?_
  refine hx.one ?_
  rw [List.any_eq_true]
  constructor
  · rintro ⟨n,hn,hb⟩
    obtain ⟨i,hi,rfl⟩:=List.getElem_of_mem hn
    exact ⟨i,hi,by simp only [List.getElem?_eq_getElem hi];exact hb⟩
  · rintro ⟨i,hi,hb⟩
    simp only [List.getElem?_eq_getElem hi] at hb
    exact ⟨l[i],List.getElem_mem hi,hb⟩
def termB (A:List Int)(t:Tm):Bool:=decide (rawE t=0)&&closedT t&&(numsT t 3).isEmpty&&!((numsT t 4).any fun n=>!decide (n∈A))
theorem terms_c (A:List Int)(r:Nat)(l:List Tm)(rt:Rt)(s:Nat)(hs:s=4∨l=[])(σ:Store)(g:σ.get r=some (.map (embM keI (mapU A)) A.length)) :
    ACalls Tryz.prog 167 [.val (.map (some r)),.list rt s (Tm.embs l)] σ (kOnly (vb (l.all (termB A))) σ):=by
  refine ACalls.ok (by kernel_rfl) (fun hok=>?_)
  have hl:=(hok _ (List.mem_cons_of_mem _ List.mem_cons_self)).len
  rw [Tm.embs_len] at hl
  clear hok
  refine acalls_of [2] [] Tryz.func167 rfl (by kernel_rfl) ?_;rw [Tryz.ntmps167,Tryz.results167]
  try simp only [go_sem,Int.reduceEq,Int.reduceLT,Int.reduceLE,↓reduceIte,Nat.reduceEqDiff,Nat.reduceAdd,Nat.reduceSub,Nat.reduceLT,Nat.reduceLeDiff,Nat.reduceMul,reduceCtorEq,tb167]
  intro b2 hb2
  try simp only [go_sem,Int.reduceEq,Int.reduceLT,Int.reduceLE,↓reduceIte,Nat.reduceEqDiff,Nat.reduceAdd,Nat.reduceSub,Nat.reduceLT,Nat.reduceLeDiff,Nat.reduceMul,reduceCtorEq,tb167]
  refine aloopT (mu:=[]) (dr:=[]) [4,6,9,10,11,12,13,14,15,16,17,18,19,20,21,22,23,24,25,26,27,28,29,30,31] (fun i:Nat=>[(9,vi i)]) (fun _=>(b2,.cells [.val (.map (some r))])::σ) (fun i=>i≤l.length∧(l.take i).all (termB A)=true) (fun i=>l.length-i) 0 (by kernel_rfl) ⟨by omega,by simp⟩ ⟨.refl _,trivial⟩ (.refl _) ?_
  rintro i ⟨hi,hb⟩
  try simp only [go_sem,Int.reduceEq,Int.reduceLT,Int.reduceLE,↓reduceIte,Nat.reduceEqDiff,Nat.reduceAdd,Nat.reduceSub,Nat.reduceLT,Nat.reduceLeDiff,Nat.reduceMul,reduceCtorEq,tb167,Tm.embs_len]
  refine ⟨fun h1=>⟨?_,by omega,h1,fun e he=>?_⟩,fun h1=>?_⟩
  · rcases hs with hs | hs
    · rw [hs]
    · rw [hs] at h1;simp at h1;omega
  · rw [Int.toNat_natCast] at he
    obtain ⟨t,ht,rfl⟩:=Tm.embs_get he
    have h1r:=raw_c t
    have h1c:=closed_c t
    have h1p:=pars_c t
    have h1v:=vars_c t
    have hd:termB A t=(decide (rawE t=0)&&closedT t&&(numsT t 3).isEmpty&&!((numsT t 4).any fun n=>!decide (n∈A))):=rfl
    have hsp:l.all (termB A)=(termB A t&&(l.drop (i+1)).all (termB A)):=by
      have:=split_at ht
      rw [this]
      rw [List.all_append,hb,List.all_cons,← this];simp
    generalize rawE t=e at h1r hd
    generalize closedT t=c at h1c hd
    generalize numsT t 3=p3 at h1p hd
    generalize numsT t 4=p4 at h1v hd
    have hnx:(l.take (i+1)).all (termB A)=termB A t:=by rw [List.take_add_one,ht,Option.toList_some,List.all_append,hb];simp
    generalize termB A t=q at hd hsp hnx
    obtain ⟨ka,na,sa,la⟩:=t
    simp only [Tm.emb_mk] at h1r h1c h1p h1v
    try simp only [go_sem,Int.reduceEq,Int.reduceLT,Int.reduceLE,↓reduceIte,Nat.reduceEqDiff,Nat.reduceAdd,Nat.reduceSub,Nat.reduceLT,Nat.reduceLeDiff,Nat.reduceMul,reduceCtorEq,tb167,Tm.emb_mk]
    intro b6 hb6
    have gr:Store.get ((b6,.cells [.val (.int .i64 ka),.val (.int .i64 na),.val (.string sa),.list .none 4 (Tm.embs la)])::(b2,.cells [.val (.map (some r))])::σ) r=some (.map (embM keI (mapU A)) A.length):=by
      rw [get_other (fun e=>by have:=fresh_get hb6.2;rw [e,g] at this;cases this),get_other (fun e=>by have:=fresh_get hb2;rw [e,g] at this;cases this),g]
    try simp only [go_sem,Int.reduceEq,Int.reduceLT,Int.reduceLE,↓reduceIte,Nat.reduceEqDiff,Nat.reduceAdd,Nat.reduceSub,Nat.reduceLT,Nat.reduceLeDiff,Nat.reduceMul,reduceCtorEq,tb167,hb6]
    refine h1r.use ?_
    try simp only [go_sem,Int.reduceEq,Int.reduceLT,Int.reduceLE,↓reduceIte,Nat.reduceEqDiff,Nat.reduceAdd,Nat.reduceSub,Nat.reduceLT,Nat.reduceLeDiff,Nat.reduceMul,reduceCtorEq,tb167,hb6]
    refine ⟨fun e0=>?_,fun e0=>?_⟩
    · refine h1c.use ?_
      cases c with
      | false =>
        try simp only [go_sem,Int.reduceEq,Int.reduceLT,Int.reduceLE,↓reduceIte,Nat.reduceEqDiff,Nat.reduceAdd,Nat.reduceSub,Nat.reduceLT,Nat.reduceLeDiff,Nat.reduceMul,reduceCtorEq,tb167,List.length_cons,List.map_cons]
        have hq:q=false:=by rw [hd];simp_all
        rw [hsp,hq]
        exact fin_pur (.refl _) (((Sub.refl σ).skip _).skip _)
      | true =>
        try simp only [go_sem,Int.reduceEq,Int.reduceLT,Int.reduceLE,↓reduceIte,Nat.reduceEqDiff,Nat.reduceAdd,Nat.reduceSub,Nat.reduceLT,Nat.reduceLeDiff,Nat.reduceMul,reduceCtorEq,tb167,hb6]
        refine h1p.use ?_
        cases p3 with
        | cons x p3 =>
          try simp only [go_sem,Int.reduceEq,Int.reduceLT,Int.reduceLE,↓reduceIte,Nat.reduceEqDiff,Nat.reduceAdd,Nat.reduceSub,Nat.reduceLT,Nat.reduceLeDiff,Nat.reduceMul,reduceCtorEq,tb167,List.length_cons,List.map_cons]
          refine ⟨fun _=>?_,fun h=>absurd h (by omega)⟩
          try simp only [go_sem,Int.reduceEq,Int.reduceLT,Int.reduceLE,↓reduceIte,Nat.reduceEqDiff,Nat.reduceAdd,Nat.reduceSub,Nat.reduceLT,Nat.reduceLeDiff,Nat.reduceMul,reduceCtorEq,tb167,List.length_cons,List.map_cons]
          have hq:q=false:=by rw [hd];simp_all
          rw [hsp,hq]
          exact fin_pur (.refl _) (((Sub.refl σ).skip _).skip _)
        | nil =>
          try simp only [go_sem,Int.reduceEq,Int.reduceLT,Int.reduceLE,↓reduceIte,Nat.reduceEqDiff,Nat.reduceAdd,Nat.reduceSub,Nat.reduceLT,Nat.reduceLeDiff,Nat.reduceMul,reduceCtorEq,tb167,hb6,List.map_nil,List.length_nil]
          refine ⟨fun h=>absurd h (by omega),fun _=>?_⟩
          refine h1v.use ?_
          try simp only [go_sem,Int.reduceEq,Int.reduceLT,Int.reduceLE,↓reduceIte,Nat.reduceEqDiff,Nat.reduceAdd,Nat.reduceSub,Nat.reduceLT,Nat.reduceLeDiff,Nat.reduceMul,reduceCtorEq,tb167,hb6]
          refine (terms1any_c A r b2 p4 .none 1 (.inl rfl) _ (by rw [get_other (Ne.symm hb6.1),get_same]) gr).only ?_
          cases ha:(p4.any fun n=>!decide (n∈A)) with
          | true =>
            rw [ha] at hd
            try simp only [go_sem,Int.reduceEq,Int.reduceLT,Int.reduceLE,↓reduceIte,Nat.reduceEqDiff,Nat.reduceAdd,Nat.reduceSub,Nat.reduceLT,Nat.reduceLeDiff,Nat.reduceMul,reduceCtorEq,tb167,List.length_cons,List.map_cons]
            have hq:q=false:=by rw [hd];simp_all
            rw [hsp,hq]
            exact fin_pur (.refl _) (((Sub.refl σ).skip _).skip _)
          | false =>
            rw [ha] at hd
            try simp only [go_sem,Int.reduceEq,Int.reduceLT,Int.reduceLE,↓reduceIte,Nat.reduceEqDiff,Nat.reduceAdd,Nat.reduceSub,Nat.reduceLT,Nat.reduceLeDiff,Nat.reduceMul,reduceCtorEq,tb167]
            rw [show IntKind.i64.wrap ((i:Int)+1)=((i+1:Nat):Int) from wrap64 (by omega) (by omega)]
            refine .mk (i+1) ⟨by omega,?_⟩ (by omega) ⟨.refl _,trivial⟩ (by repeat first | exact Keeps.turn _ rfl | refine Keeps.put rfl ?_) ((Sub.refl _).skip _)
            rw [hnx,hd];simp [e0]
    · try simp only [go_sem,Int.reduceEq,Int.reduceLT,Int.reduceLE,↓reduceIte,Nat.reduceEqDiff,Nat.reduceAdd,Nat.reduceSub,Nat.reduceLT,Nat.reduceLeDiff,Nat.reduceMul,reduceCtorEq,tb167,List.length_cons,List.map_cons]
      have hq:q=false:=by rw [hd];simp_all
      rw [hsp,hq]
      exact fin_pur (.refl _) (((Sub.refl σ).skip _).skip _)
  · have hil:l.take i=l:=List.take_of_length_le (by omega)
    rw [hil] at hb
    rw [hb]
    exact fin_pur (.refl _) ((Sub.refl σ).skip _)
end Go.Vx
end
section
set_option maxRecDepth 100000
namespace Go.Vx
open Go.Proofs
theorem tb211:(fOff Tryz.prog 150 0=some 0)∧(szOf Tryz.prog 9=some 1)∧(aggOf Tryz.prog 9=some false)∧(fOff Tryz.prog 150 1=some 1)∧(szOf Tryz.prog 126=some 1)∧(aggOf Tryz.prog 126=some false)∧(Tryz.prog.underlying 4=some .bool)∧(fOff Tryz.prog 224 0=some 0)∧(szOf Tryz.prog 64=some 1)∧(aggOf Tryz.prog 64=some false)∧(szOf Tryz.prog 40=some 1)∧(elOf Tryz.prog 126=some 150)∧(szOf Tryz.prog 150=some 2)∧(aggOf Tryz.prog 150=some true)∧(zeroOf Tryz.prog 150=some (.agg #[(.string ⟨#[]⟩),(.slice none 0 0)]))∧(szOf Tryz.prog 270=some 1)∧(aggOf Tryz.prog 270=some false)∧(Tryz.prog.underlying 126=some (.slice 150)):=by
  refine ⟨?_,?_,?_,?_,?_,?_,?_,?_,?_,?_,?_,?_,?_,?_,?_,?_,?_,?_⟩<;>first | trivial | kernel_rfl
theorem tb210:(zeroOf Tryz.prog 270=some .nilFunc)∧(szOf Tryz.prog 270=some 1)∧(aggOf Tryz.prog 270=some false)∧(szOf Tryz.prog 150=some 2)∧(aggOf Tryz.prog 150=some true):=by
  refine ⟨?_,?_,?_,?_,?_⟩<;>first | trivial | kernel_rfl
theorem tb164:(szOf Tryz.prog 150=some 2)∧(aggOf Tryz.prog 150=some true)∧(zeroOf Tryz.prog 40=some (.int .i64 0))∧(szOf Tryz.prog 40=some 1)∧(aggOf Tryz.prog 40=some false):=by
  refine ⟨?_,?_,?_,?_,?_⟩<;>first | trivial | kernel_rfl
abbrev arrow:Str:={ data:=#[45,62] }
mutual
def wfT:Ty→Bool
  | .mk s l=>(decide (s=arrow) == decide (l.length=2))&&(decide (s=arrow) || decide (l.length=0))&&wfTs l
def wfTs:List Ty→Bool
  | []=>true
  | t::r=>wfT t&&wfTs r
end
mutual
def okT (types:List Str):Ty→Bool
  | .mk s l=>(decide (s=arrow) || decide (s∈types))&&okTs types l
def okTs (types:List Str):List Ty→Bool
  | []=>true
  | t::r=>okT types t&&okTs types r
end
theorem wfTs_app (l m:List Ty):wfTs (l++m)=(wfTs l&&wfTs m):=by
  induction l with
  | nil=>rfl
  | cons a r ih=>simp only [List.cons_append,wfTs,ih,Bool.and_assoc]
theorem okTs_app (ts:List Str)(l m:List Ty):okTs ts (l++m)=(okTs ts l&&okTs ts m):=by
  induction l with
  | nil=>rfl
  | cons a r ih=>simp only [List.cons_append,okTs,ih,Bool.and_assoc]
def ctV (bp be bw:Nat):Value:=.func (.func 211) #[] #[.pointer (some ⟨bp,0,none⟩),.pointer (some ⟨be,0,none⟩),.pointer (some ⟨bw,0,none⟩)]
theorem ctwalk_c (bp be bw:Nat)(types:List Str)(rt:Rt)(sz:Nat)(hs:sz=1∨types=[])(rest:List AV):∀ (t:Ty) (e:Int) (σ:Store),σ.get bp=some (.cells (.list rt sz (strs types)::rest))→σ.get be=some (.cells [vi e])→σ.get bw=some (.cells [.val (ctV bp be bw)]) →
    ACalls Tryz.prog 211 [.agg t.emb,.val (.pointer (some ⟨bp,0,none⟩)),.val (.pointer (some ⟨be,0,none⟩)),.val (.pointer (some ⟨bw,0,none⟩))] σ
      (fun r σ'=>∃ e',σ'=σ.set be (.cells [vi e'])∧((wfT t=true∧r=.ret (.tup [])∧e'=if okT types t=true then e else 40)∨(wfT t=false∧r=.pan (termFault 6)))):=by
  intro t
  induction t using Ty.ind with | h s l ih=>?_
  intro e σ gp ge gw
  refine ACalls.ok (by kernel_rfl) (fun hok=>?_)
  have hlen:=(((hok _ List.mem_cons_self).agg (c:=.list .none 2 (Ty.embs l)) (by simp [Ty.emb_mk])).len)
  rw [Ty.embs_len] at hlen
  clear hok
  simp only [Ty.emb_mk]
  have n1:bp≠be:=by intro h;rw [h,ge] at gp;simp at gp
  have n2:bw≠be:=by intro h;rw [h,ge] at gw;simp [ctV] at gw
  refine acalls_of [] [] Tryz.func211 rfl (by kernel_rfl) ?_;rw [Tryz.ntmps211,Tryz.results211]
  try simp only [go_sem,seval,tb211,Ty.embs_len]
  have head_f:∀ (h:((decide (s=arrow) == decide (l.length=2))&&(decide (s=arrow) || decide (l.length=0)))=false),wfT (.mk s l)=false:=fun h=>by simp only [wfT,h,Bool.false_and]
  refine ⟨fun q1=>⟨fun q2=>?_,fun q2=>?_⟩,fun q1=>?_⟩
  · refine must_use (fun hm=>?_) (fun hm=>?_)
    · have hm:l.length=0:=by simpa using hm
      have hhead:((decide (s=arrow) == decide (l.length=2))&&(decide (s=arrow) || decide (l.length=0)))=true:=by simp [arrow,q2,hm]
      try simp only [go_sem,seval,tb211,Ty.embs_len,q2,gp,n1]
      refine (contains_str types s rt sz hs).use ?_
      try simp only [go_sem,seval,tb211,Ty.embs_len,q2,ge]
      refine ⟨fun q3=>?_,fun q3=>?_⟩
      · obtain ⟨e0,he0⟩:∃ e0:Int,e0=40:=⟨_,rfl⟩
        have hfin:∀ x2,x2=(if okTs types l=true then e0 else 40)→x2=if okT types (.mk s l)=true then e else 40:=by
          intro x2 h;rw [h,he0];simp [okT,arrow,q2,q3]
        refine aloopT (mu:=[]) (dr:=[]) [6,41,42,43,44,45,46,47,48] (fun x:Nat×Int=>[(41,vi x.1)]) (fun x=>σ.set be (.cells [vi x.2]))
          (fun x=>x.1≤l.length∧wfTs (l.take x.1)=true∧x.2=(if okTs types (l.take x.1)=true then e0 else 40)) (fun x=>l.length-x.1) (0,e0) (by kernel_rfl) ⟨by simp,by simp [wfTs],by simp [okTs]⟩ ⟨.refl _,trivial⟩ (by first | (rw [he0];exact .refl _) | (rw [he0,set_get ge];exact .refl _)) ?_
        rintro ⟨i,x2⟩ ⟨hi,hwf,hx2⟩
        dsimp only at hi hwf hx2
        try simp only [go_sem,seval,tb211,Ty.embs_len]
        refine ⟨fun hi2=>⟨by omega,hi2,fun c hc=>?_⟩,fun hi2=>?_⟩
        · rw [Int.toNat_natCast] at hc
          obtain ⟨a,ha,rfl⟩:=Ty.embs_get hc
          have iha:=ih a (List.mem_of_getElem? ha) x2 (σ.set be (.cells [vi x2])) (by rw [get_set_ne n1];exact gp) (get_set_same ge) (by rw [get_set_ne n2];exact gw)
          obtain ⟨sa,la⟩:=a
          try simp only [go_sem,seval,tb211,Ty.emb_mk]
          intro b9 hb9
          try simp only [go_sem,seval,tb211,Ty.emb_mk,hb9,n2,gw,ctV]
          refine (iha.sub (.cons _ _)).mono ?_
          have hsp:=split_at ha
          rintro r _ ⟨e',rfl,hr⟩
          rw [set_set]
          rcases hr with ⟨hw,rfl,he'⟩ | ⟨hw,rfl⟩
          · try simp only [go_sem,seval,tb211]
            rw [show IntKind.i64.wrap ((i:Int)+1)=((i+1:Nat):Int) from wrap64 (by omega) (by omega)]
            refine .mk (i+1,e') ⟨by dsimp only;omega,?_,?_⟩ (by dsimp only;omega) ⟨.refl _,trivial⟩ (by repeat first | exact Keeps.turn _ rfl | refine Keeps.put rfl ?_) (.refl _)
            · rw [List.take_add_one,ha,Option.toList_some,wfTs_app,hwf];simp [wfTs,hw]
            · rw [List.take_add_one,ha,Option.toList_some,okTs_app,he',hx2]
              cases okTs types (l.take i)<;>cases h2:okT types (.mk sa la)<;>simp [okTs,h2]
          · try simp only [go_sem,seval,tb211]
            refine .mk (.refl _) ⟨e',rfl,.inr ⟨?_,rfl⟩⟩
            rw [wfT,hhead,hsp,wfTs_app]
            simp [wfTs,hw]
        · have hil:l.take i=l:=List.take_of_length_le (by omega)
          rw [hil] at hwf hx2
          exact .mk (.refl _) (.refl _) ⟨x2,rfl,.inl ⟨by rw [wfT,hhead,hwf];rfl,rfl,hfin _ hx2⟩⟩
      · obtain ⟨e0,he0⟩:∃ e0:Int,e0=e:=⟨_,rfl⟩
        have hfin:∀ x2,x2=(if okTs types l=true then e0 else 40)→x2=if okT types (.mk s l)=true then e else 40:=by
          intro x2 h;rw [h,he0];simp [okT,q3]
        refine aloopT (mu:=[]) (dr:=[]) [6,41,42,43,44,45,46,47,48] (fun x:Nat×Int=>[(41,vi x.1)]) (fun x=>σ.set be (.cells [vi x.2]))
          (fun x=>x.1≤l.length∧wfTs (l.take x.1)=true∧x.2=(if okTs types (l.take x.1)=true then e0 else 40)) (fun x=>l.length-x.1) (0,e0) (by kernel_rfl) ⟨by simp,by simp [wfTs],by simp [okTs]⟩ ⟨.refl _,trivial⟩ (by first | (rw [he0];exact .refl _) | (rw [he0,set_get ge];exact .refl _)) ?_
        rintro ⟨i,x2⟩ ⟨hi,hwf,hx2⟩
        dsimp only at hi hwf hx2
        try simp only [go_sem,seval,tb211,Ty.embs_len]
        refine ⟨fun hi2=>⟨by omega,hi2,fun c hc=>?_⟩,fun hi2=>?_⟩
        · rw [Int.toNat_natCast] at hc
          obtain ⟨a,ha,rfl⟩:=Ty.embs_get hc
          have iha:=ih a (List.mem_of_getElem? ha) x2 (σ.set be (.cells [vi x2])) (by rw [get_set_ne n1];exact gp) (get_set_same ge) (by rw [get_set_ne n2];exact gw)
          obtain ⟨sa,la⟩:=a
          try simp only [go_sem,seval,tb211,Ty.emb_mk]
          intro b9 hb9
          try simp only [go_sem,seval,tb211,Ty.emb_mk,hb9,n2,gw,ctV]
          refine (iha.sub (.cons _ _)).mono ?_
          have hsp:=split_at ha
          rintro r _ ⟨e',rfl,hr⟩
          rw [set_set]
          rcases hr with ⟨hw,rfl,he'⟩ | ⟨hw,rfl⟩
          · try simp only [go_sem,seval,tb211]
            rw [show IntKind.i64.wrap ((i:Int)+1)=((i+1:Nat):Int) from wrap64 (by omega) (by omega)]
            refine .mk (i+1,e') ⟨by dsimp only;omega,?_,?_⟩ (by dsimp only;omega) ⟨.refl _,trivial⟩ (by repeat first | exact Keeps.turn _ rfl | refine Keeps.put rfl ?_) (.refl _)
            · rw [List.take_add_one,ha,Option.toList_some,wfTs_app,hwf];simp [wfTs,hw]
            · rw [List.take_add_one,ha,Option.toList_some,okTs_app,he',hx2]
              cases okTs types (l.take i)<;>cases h2:okT types (.mk sa la)<;>simp [okTs,h2]
          · try simp only [go_sem,seval,tb211]
            refine .mk (.refl _) ⟨e',rfl,.inr ⟨?_,rfl⟩⟩
            rw [wfT,hhead,hsp,wfTs_app]
            simp [wfTs,hw]
        · have hil:l.take i=l:=List.take_of_length_le (by omega)
          rw [hil] at hwf hx2
          exact .mk (.refl _) (.refl _) ⟨x2,rfl,.inl ⟨by rw [wfT,hhead,hwf];rfl,rfl,hfin _ hx2⟩⟩
    · have hm:¬ l.length=0:=by simpa using hm
      try simp only [go_sem,seval,tb211]
      exact .mk (.refl _) ⟨e,(set_get ge).symm,.inr ⟨head_f (by simp [arrow,q2,hm]),rfl⟩⟩
  · refine must_use (fun _=>?_) (fun hm=>by simp at hm)
    have hhead:((decide (s=arrow) == decide (l.length=2))&&(decide (s=arrow) || decide (l.length=0)))=true:=by
      have:l.length=2:=by simp only [q2,decide_true] at q1;have:=q1.symm;simp only [decide_eq_true_eq] at this;omega
      simp [arrow,q2,this]
    try simp only [go_sem,seval,tb211,Ty.embs_len]
    refine ⟨fun h=>absurd q2 h,fun _=>?_⟩
    obtain ⟨e0,he0⟩:∃ e0:Int,e0=e:=⟨_,rfl⟩
    have hfin:∀ x2,x2=(if okTs types l=true then e0 else 40)→x2=if okT types (.mk s l)=true then e else 40:=by
      intro x2 h;rw [h,he0];simp [okT,arrow,q2]
    refine aloopT (mu:=[]) (dr:=[]) [6,41,42,43,44,45,46,47,48] (fun x:Nat×Int=>[(41,vi x.1)]) (fun x=>σ.set be (.cells [vi x.2]))
      (fun x=>x.1≤l.length∧wfTs (l.take x.1)=true∧x.2=(if okTs types (l.take x.1)=true then e0 else 40)) (fun x=>l.length-x.1) (0,e0) (by kernel_rfl) ⟨by simp,by simp [wfTs],by simp [okTs]⟩ ⟨.refl _,trivial⟩ (by first | (rw [he0];exact .refl _) | (rw [he0,set_get ge];exact .refl _)) ?_
    rintro ⟨i,x2⟩ ⟨hi,hwf,hx2⟩
    dsimp only at hi hwf hx2
    try simp only [go_sem,seval,tb211,Ty.embs_len]
    refine ⟨fun hi2=>⟨by omega,hi2,fun c hc=>?_⟩,fun hi2=>?_⟩
    · rw [Int.toNat_natCast] at hc
      obtain ⟨a,ha,rfl⟩:=Ty.embs_get hc
      have iha:=ih a (List.mem_of_getElem? ha) x2 (σ.set be (.cells [vi x2])) (by rw [get_set_ne n1];exact gp) (get_set_same ge) (by rw [get_set_ne n2];exact gw)
      obtain ⟨sa,la⟩:=a
      try simp only [go_sem,seval,tb211,Ty.emb_mk]
      intro b9 hb9
      try simp only [go_sem,seval,tb211,Ty.emb_mk,hb9,n2,gw,ctV]
      refine (iha.sub (.cons _ _)).mono ?_
      have hsp:=split_at ha
      rintro r _ ⟨e',rfl,hr⟩
      rw [set_set]
      rcases hr with ⟨hw,rfl,he'⟩ | ⟨hw,rfl⟩
      · try simp only [go_sem,seval,tb211]
        rw [show IntKind.i64.wrap ((i:Int)+1)=((i+1:Nat):Int) from wrap64 (by omega) (by omega)]
        refine .mk (i+1,e') ⟨by dsimp only;omega,?_,?_⟩ (by dsimp only;omega) ⟨.refl _,trivial⟩ (by repeat first | exact Keeps.turn _ rfl | refine Keeps.put rfl ?_) (.refl _)
        · rw [List.take_add_one,ha,Option.toList_some,wfTs_app,hwf];simp [wfTs,hw]
        · rw [List.take_add_one,ha,Option.toList_some,okTs_app,he',hx2]
          cases okTs types (l.take i)<;>cases h2:okT types (.mk sa la)<;>simp [okTs,h2]
      · try simp only [go_sem,seval,tb211]
        refine .mk (.refl _) ⟨e',rfl,.inr ⟨?_,rfl⟩⟩
        rw [wfT,hhead,hsp,wfTs_app]
        simp [wfTs,hw]
    · have hil:l.take i=l:=List.take_of_length_le (by omega)
      rw [hil] at hwf hx2
      exact .mk (.refl _) (.refl _) ⟨x2,rfl,.inl ⟨by rw [wfT,hhead,hwf];rfl,rfl,hfin _ hx2⟩⟩
  · refine must_use (fun hm=>by simp at hm) (fun _=>?_)
    try simp only [go_sem,seval,tb211]
    refine .mk (.refl _) ⟨e,(set_get ge).symm,.inr ⟨head_f ?_,rfl⟩⟩
    by_cases q2:s=arrow
    · have:¬ l.length=2:=by intro h;exact q1 (by simp [q2,h])
      simp [q2,this]
    · have:l.length=2:=by
        by_cases h:l.length=2
        · exact h
        · exact absurd (by have h':¬ ((l.length:Int)=2):=by omega
                           rw [decide_eq_false h',decide_eq_false (show ¬ s={ data:=#[45,62] } from q2)]) q1
      simp [q2,this]
def chkT (types:List Str)(t:Ty):Int:=if sizedE t.shape≠0 then sizedE t.shape else if wfT t=true then (if okT types t=true then 0 else 40) else 6
theorem ct1_c (bp be bt:Nat)(types:List Str)(rt:Rt)(sz:Nat)(hs:sz=1∨types=[])(rest:List AV)(t:Ty)(e:Int)(σ:Store)(gp:σ.get bp=some (.cells (.list rt sz (strs types)::rest)))(ge:σ.get be=some (.cells [vi e]))(gt:σ.get bt=some (.cells t.emb)) :
    ACalls Tryz.prog 210 [.val (.pointer (some ⟨bp,0,none⟩)),.val (.pointer (some ⟨be,0,none⟩)),.val (.pointer (some ⟨bt,0,none⟩))] σ
      (fun r σ'=>∃ e',σ'=σ.set be (.cells [vi e'])∧((wfT t=true∧r=.ret (.tup [])∧e'=if okT types t=true then e else 40)∨(wfT t=false∧r=.pan (termFault 6)))):=by
  obtain ⟨s,l⟩:=t
  simp only [Ty.emb_mk] at gt
  refine acalls_of [] [] Tryz.func210 rfl (by kernel_rfl) ?_;rw [Tryz.ntmps210,Tryz.results210]
  try simp only [go_sem,seval,tb210]
  intro bw hbw
  try simp only [go_sem,seval,tb210,hbw,gp,ge,gt]
  refine (ctwalk_c bp be bw types rt sz hs rest (.mk s l) e _ (by rw [get_fresh hbw (by rw [gp];rfl)];exact gp) (by rw [get_fresh hbw (by rw [ge];rfl)];exact ge) (by rw [get_same];rfl)).mono ?_
  rintro r _ ⟨e',rfl,hr⟩
  rw [set_fresh hbw (by rw [ge];rfl)]
  rcases hr with ⟨hw,rfl,he⟩ | ⟨hw,rfl⟩
  · try simp only [go_sem,seval,tb210]
    exact .mk (.refl _) (.cons _ _) ⟨e',rfl,.inl ⟨hw,rfl,he⟩⟩
  · try simp only [go_sem,seval,tb210]
    exact .mk (.cons _ _) ⟨e',rfl,.inr ⟨hw,rfl⟩⟩
theorem checkType_c (types:List Str)(rt:Rt)(sz:Nat)(hs:sz=1∨types=[])(c1 c2 c3 c4:AV)(h1:c1.one=true)(h2:c2.one=true)(h3:c3.one=true)(h4:c4.one=true)(t:Ty) :
    Pur Tryz.prog 164 [.agg [.list rt sz (strs types),c1,c2,c3,c4],.agg t.emb] (vi (chkT types t)):=by
  intro σ
  have hsz:=sized_c_Ty t
  obtain ⟨s,l⟩:=t
  simp only [Ty.emb_mk] at hsz ⊢
  refine acalls_of [2,3] [] Tryz.func164 rfl (by kernel_rfl) ?_;rw [Tryz.ntmps164,Tryz.results164]
  try simp only [go_sem,seval,tb164]
  intro b2 hb2 b3 hb3
  try simp only [go_sem,seval,tb164,hb2,hb3]
  refine hsz.use ?_
  try simp only [go_sem,seval,tb164,hb2,hb3]
  refine ⟨fun q=>?_,fun q=>?_⟩
  · have:chkT types (.mk s l)=sizedE (Ty.mk s l).shape:=by unfold chkT;rw [if_pos q]
    rw [this]
    exact fin_pur (.refl _) (((Sub.refl σ).skip _).skip _)
  · intro b6 hb6
    have g2:Store.get ((b3,AObj.cells [vs s,.list .none 2 (Ty.embs l)])::(b2,.cells [.list rt sz (strs types),c1,c2,c3,c4])::σ) b2=some (.cells [.list rt sz (strs types),c1,c2,c3,c4]):=by rw [get_fresh hb3 (by rw [get_same];rfl),get_same]
    have g3:Store.get ((b3,AObj.cells [vs s,.list .none 2 (Ty.embs l)])::(b2,.cells [.list rt sz (strs types),c1,c2,c3,c4])::σ) b3=some (.cells [vs s,.list .none 2 (Ty.embs l)]):=get_same _ _ _
    try simp only [go_sem,seval,tb164,hb2,hb3,hb6]
    refine guarded_c _ _ _ (fun b hb=>?_)
    rw [inv_of]
    refine (ct1_c b2 b6 b3 types rt sz hs [c1,c2,c3,c4] (.mk s l) 0 _ ?_ ?_ ?_).mono ?_
    · rw [get_fresh hb (by rw [get_fresh hb6 (by rw [g2];rfl),g2];rfl),get_fresh hb6 (by rw [g2];rfl),g2]
    · rw [get_fresh hb (by rw [get_same];rfl),get_same]
    · rw [get_fresh hb (by rw [get_fresh hb6 (by rw [g3];rfl),g3];rfl),get_fresh hb6 (by rw [g3];rfl),g3];rfl
    rintro r _ ⟨e',rfl,hr⟩
    rw [set_fresh hb (by rw [get_same];rfl),set_same]
    refine ⟨_,rfl,?_⟩
    rcases hr with ⟨hw,rfl,he⟩ | ⟨hw,rfl⟩
    · try simp only [go_sem,seval,tb164]
      have:chkT types (.mk s l)=e':=by unfold chkT;rw [if_neg (not_not_intro q),if_pos hw,he]
      rw [this]
      exact fin_pur (.refl _) ((((Sub.refl σ).skip _).skip _).skip _)
    · refine ⟨6,rfl,?_⟩
      try simp only [go_sem,seval,tb164]
      have:chkT types (.mk s l)=6:=by unfold chkT;rw [if_neg (not_not_intro q),if_neg (by rw [hw];simp)]
      rw [this]
      exact fin_pur (.refl _) ((((Sub.refl σ).skip _).skip _).skip _)
end Go.Vx
end
