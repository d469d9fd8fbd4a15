/- Part Q22 of the proof of treeLooksProved: the walk of the program on abstract values, and the plain law. -/
import Derived.Test.YtmedmnondjmleaaGreatQ21
import Derived.Test.YtmedmnondjmleaaGreatQ20
import Derived.Test.YtmedmnondjmleaaGreatQ15
set_option linter.unusedVariables false
set_option linter.unusedSimpArgs false
section
set_option maxRecDepth 100000
namespace Go.Vx
open Go.Proofs
theorem PR:(Zh Tryz.prog 226=some 1)∧(Ze Tryz.prog 226=some false)∧(Tryz.prog.underlying 226=some (.map 3 4))∧(Tryz.prog.underlying 3=some (.int .i64))∧(Zl Tryz.prog 4=some (.bool false)):=by
 refine ⟨?_,?_,?_,?_,?_⟩<;>first | trivial | kernel_rfl
theorem Qj {A:List Int}{e:Value×AV×Nat}:e∈ZM keI (Yf A)↔∃ (i:Nat) (x:Int),A[i]?=some x∧e=(keI x,vb true,i):=by
 unfold ZM Yf
 rw [List.map_map,List.mem_map]
 constructor
 ·rintro ⟨⟨x,i⟩,h,rfl⟩
  rw [List.mem_zipIdx_iff_getElem?] at h
  exact ⟨i,x,h,rfl⟩
 ·rintro ⟨i,x,h,rfl⟩
  exact ⟨(x,i),List.mem_zipIdx_iff_getElem?.2 h,rfl⟩
theorem Mh (acc:List Int)(n:Int):VL (Yf acc) n (vb true) acc.length=Yf (W8 acc n)∧Uh (Yf acc) n acc.length=(W8 acc n).length:=by
 by_cases h:n∈acc
 ·unfold VL Uh W8
  rw [UO,if_pos h,if_pos h,if_pos h]
  refine ⟨?_,rfl⟩
  have:∀ e∈Yf acc,(if e.1=n then (n,vb true,e.2.2) else e)=e:=by
   intro e he
   unfold Yf at he
   obtain ⟨p,_,rfl⟩:=List.mem_map.1 he
   split
   ·rename_i h;simp only at h;rw [h]
   ·rfl
  calc _=(Yf acc).map id:=List.map_congr_left this
   _=_:=by simp
 ·have:W8 acc n=acc++[n]:=by unfold W8;rw [if_neg h]
  rw [this];exact TV acc n h
theorem TS {acc:List Int}{n y:Int}:y∈W8 acc n↔y=n∨y∈acc:=by
 unfold W8;split
 ·rename_i h;exact ⟨.inr,fun k=>k.elim (fun e=>e ▸ h) id⟩
 ·simp [or_comm]
theorem Vd {L:Nat}{seen:List Nat}{i:Nat}(hi:i<L)(hs:i ∉ seen):((List.range L).filter (fun j=>decide (j ∉ seen++[i]))).length<((List.range L).filter (fun j=>decide (j ∉ seen))).length:=by
 have h1:(List.range L).filter (fun j=>decide (j ∉ seen++[i]))=((List.range L).filter (fun j=>decide (j ∉ seen))).filter (fun j=>decide (j≠i)):=by
  rw [List.filter_filter]
  apply List.filter_congr
  intro j _
  simp [not_or,and_comm]
 rw [h1]
 refine List.length_filter_lt_length_iff_exists.2 ⟨i,?_,by simp⟩
 simp [hi,hs]
theorem H1 (σ:Store)(r:Nat)(A:List Int)(n:Int)(g:σ.get r=some (.map (ZM keI (Yf A)) A.length)) :
 Zj Tryz.prog 216 [.val (.map (some r)),vi n] σ (fun x S'=>∃ r' A',x=.ret (.val (.map (some r')))∧Zx σ r'∧S'=(r',.map (ZM keI (Yf A')) A'.length)::σ∧∀ y,y∈A'↔y=n∨y∈A):=by
 have e0:VL (Yf []) n (vb true) 0=Yf [n]∧Uh (Yf []) n 0=1:=TV [] n (by simp)
 have z0:([]:List (Value×AV×Nat))=ZM keI (Yf []):=rfl
 refine Zc [] [] Tryz.func216 rfl (by kernel_rfl) ?_;rw [Tryz.ntmps216,Tryz.results216]
 refine er ?_
 intro r1 h1
 refine er ?_
 rw [z0]
 refine Y3 We.1 We.2.1 (Zi _ _ _) ?_
 rw [e0.1,e0.2,Z6]
 refine er ?_
 have hr1:r1≠r:=fun e=>by have:=Zm h1;rw [e,g] at this;cases this
 refine ⟨r,A.length,_,_,_,We.1,rfl,(by rw [Za hr1];exact g),fun b2 hb2=>?_⟩
 refine er ?_
 refine Zv (mu:=[]) (dr:=[]) [6,12,13,14,15,16,17] (fun _:List Nat×List Int=>[]) (fun x=>(b2,.iter (some r) A.length x.1 A.length)::(r1,.map (ZM keI (Yf x.2)) x.2.length)::σ)
  (fun x=>(∀ y∈x.2,y=n∨y∈A)∧n∈x.2∧(∀ i,i∈x.1→∀ y,A[i]?=some y→y∈x.2)) (fun x=>((List.range A.length).filter (fun j=>decide (j ∉ x.1))).length) ([],[n]) (by kernel_rfl) ⟨by simp,by simp,by simp⟩ trivial (.refl _) ?_
 rintro ⟨seen,B⟩ ⟨i1,i2,i3⟩
 simp only at i1 i2 i3
 have gr:Store.get ((b2,.iter (some r) A.length seen A.length)::(r1,.map (ZM keI (Yf B)) B.length)::σ) r=some (.map (ZM keI (Yf A)) A.length):=by
  rw [Za (fun e=>by have:=Zm hb2.2;rw [e,g] at this;cases this),Za hr1,g]
 refine er ?_
 refine ⟨b2,r,A.length,ZM keI (Yf A),seen,rfl,Zi _ _ _,gr,fun hall=>?_,fun e he hne=>?_⟩
 ·refine er ?_
  refine .mk (.refl _) ((Sub.refl _).skip _) ⟨r1,B,rfl,h1,rfl,fun y=>⟨i1 y,fun h=>?_⟩⟩
  rcases h with rfl | h
  ·exact i2
  ·obtain ⟨i,hi,rfl⟩:=List.getElem_of_mem h
   exact i3 i (hall _ (Qj.2 ⟨i,A[i],List.getElem?_eq_getElem hi,rfl⟩)) _ (List.getElem?_eq_getElem hi)
 ·obtain ⟨i,y,hy,rfl⟩:=Qj.1 he
  simp only [Z6]
  refine er ?_
  have gr2:Store.get ((b2,.iter (some r) A.length (seen++[i]) A.length)::(r1,.map (ZM keI (Yf B)) B.length)::σ) r=some (.map (ZM keI (Yf A)) A.length):=by
   rw [Za (fun e=>by have:=Zm hb2.2;rw [e,g] at this;cases this),Za hr1,g]
  refine ⟨b2,r,A.length,ZM keI (Yf A),seen,(keI y,vb true,i),rfl,Zi _ _ _,gr2,Qj.2 ⟨i,y,hy,rfl⟩,?_⟩
  try simp only [go_sem,Int.reduceEq,Int.reduceLT,Int.reduceLE,↓reduceIte,Nat.reduceEqDiff,Nat.reduceAdd,Nat.reduceSub,Nat.reduceLT,Nat.reduceLeDiff,Nat.reduceMul,reduceCtorEq,We,keI]
  have h12:b2≠r1:=Ne.symm hb2.1
  refine Y3 (l:=Yf B) (c:=B.length) We.1 We.2.1 (by rw [Za h12,Zi]) ?_
  obtain ⟨u1,u2⟩:=Mh B y
  rw [u1,u2,Zk h12,Z6]
  refine er ?_
  refine .mk (seen++[i],W8 B y) ⟨fun z hz=>?_,TS.2 (.inr i2),fun j hj z hz=>?_⟩ (Vd (List.getElem?_eq_some_iff.1 hy).1 hne) trivial (by repeat first | exact Zf.turn _ rfl | refine Zf.put rfl ?_) (.refl _)
  ·rcases TS.1 hz with rfl | h
   ·exact .inr (List.mem_of_getElem? hy)
   ·exact i1 z h
  ·rcases List.mem_append.1 hj with h | h
   ·exact TS.2 (.inr (i3 j h z hz))
   ·rw [List.mem_singleton.1 h,hy] at hz;injection hz with hz;exact TS.2 (.inl hz.symm)
theorem Pg.one {b:Nat→Bool}{n:Nat}{c:Bool}{σ σ':Store}{r:ZO}(h:Pg b n (fun _=>σ) r σ')(hc:c=true↔∃ i,i<n∧b i=true):r=.ret (vb c)∧σ'=σ:=by
 rcases h with ⟨i,hi,hb,_,rfl,rfl⟩ | ⟨hn,rfl,rfl⟩
 ·rw [hc.2 ⟨i,hi,hb⟩];exact ⟨rfl,rfl⟩
 ·have:c=false:=by
   cases hcc:c with
   | false=>rfl
   | true=>obtain ⟨i,hi,hb⟩:=hc.1 hcc;rw [hn i hi] at hb;cases hb
  rw [this];exact ⟨rfl,rfl⟩
theorem Zj.only {P:Program}{k:FuncId}{args:List AV}{v:AV}{σ:Store}{K:ZO→Store→Prop}(h:Zj P k args σ (Z8 v σ))(hk:K (.ret v) σ):Zj P k args σ K :=
 h.mono fun r σ' ⟨e,e'⟩=>by rw [e,e'];exact hk
theorem H7 (A:List Int)(r bc:Nat)(n:Int)(σ:Store)(gc:σ.get bc=some (.cells [.val (.map (some r))]))(g:σ.get r=some (.map (ZM keI (Yf A)) A.length)) :
 Zj Tryz.prog 222 [vi n,.val (.pointer (some ⟨bc,0,none⟩))] σ (Z8 (vb (!decide (n∈A))) σ):=by
 refine Zc [] [] Tryz.func222 rfl (by kernel_rfl) ?_;rw [Tryz.ntmps222,Tryz.results222]
 try simp only [go_sem,Int.reduceEq,Int.reduceLT,Int.reduceLE,↓reduceIte,Nat.reduceEqDiff,Nat.reduceAdd,Nat.reduceSub,Nat.reduceLT,Nat.reduceLeDiff,Nat.reduceMul,reduceCtorEq,PQ,gc]
 refine UV (z:=.bool false) PQ.2.2.1 PQ.2.2.2.1 PQ.2.2.2.2 g ?_
 rw [Mk,Sr]
 by_cases h:n∈A
 ·rw [if_pos h,decide_eq_true h]
  try simp only [go_sem,Int.reduceEq,Int.reduceLT,Int.reduceLE,↓reduceIte,Nat.reduceEqDiff,Nat.reduceAdd,Nat.reduceSub,Nat.reduceLT,Nat.reduceLeDiff,Nat.reduceMul,reduceCtorEq,PQ,Option.getD_some]
  exact Zu
 ·rw [if_neg h,decide_eq_false h]
  try simp only [go_sem,Int.reduceEq,Int.reduceLT,Int.reduceLE,↓reduceIte,Nat.reduceEqDiff,Nat.reduceAdd,Nat.reduceSub,Nat.reduceLT,Nat.reduceLeDiff,Nat.reduceMul,reduceCtorEq,PQ,Option.getD_none]
  exact Zu
theorem NW (A:List Int)(r bc:Nat)(l:List Int)(rt:Rt)(s:Nat)(hs:s=1∨l=[])(σ:Store)(gc:σ.get bc=some (.cells [.val (.map (some r))]))(g:σ.get r=some (.map (ZM keI (Yf A)) A.length)) :
 Zj Tryz.prog 217 [.list rt s (Yz l),.val (.func (.func 222) #[] #[.pointer (some ⟨bc,0,none⟩)])] σ (Z8 (vb (l.any fun n=>!decide (n∈A))) σ):=by
 have h:=VE (.func (.func 222) #[] #[.pointer (some ⟨bc,0,none⟩)]) rt s (l.map vi) (fun _=>σ) (fun i=>match l[i]? with | some n=>!decide (n∈A) | none=>false) (hs.imp id (fun h=>by rw [h];rfl))
  (fun i e he _=>by
   obtain ⟨n,hn,rfl⟩:=Yo he
   rw [Y5]
   simp only [hn]
   exact H7 A r bc n σ gc g)
 rw [List.map_map,List.length_map] at h
 refine h.mono fun x σ' hx=>?_
 refine hx.one ?_
 rw [List.any_eq_true]
 constructor
 ·rintro ⟨n,hn,hb⟩
  obtain ⟨i,hi,rfl⟩:=List.getElem_of_mem hn
  exact ⟨i,hi,by simp only [List.getElem?_eq_getElem hi];exact hb⟩
 ·rintro ⟨i,hi,hb⟩
  simp only [List.getElem?_eq_getElem hi] at hb
  exact ⟨l[i],List.getElem_mem hi,hb⟩
theorem CA (A:List Int)(r bc:Nat)(n:Int)(σ:Store)(gc:σ.get bc=some (.cells [.val (.map (some r))]))(g:σ.get r=some (.map (ZM keI (Yf A)) A.length)) :
 Zj Tryz.prog 218 [vi n,.val (.pointer (some ⟨bc,0,none⟩))] σ (Z8 (vb (!decide (n∈A))) σ):=by
 refine Zc [] [] Tryz.func218 rfl (by kernel_rfl) ?_;rw [Tryz.ntmps218,Tryz.results218]
 try simp only [go_sem,Int.reduceEq,Int.reduceLT,Int.reduceLE,↓reduceIte,Nat.reduceEqDiff,Nat.reduceAdd,Nat.reduceSub,Nat.reduceLT,Nat.reduceLeDiff,Nat.reduceMul,reduceCtorEq,PR,gc]
 refine UV (z:=.bool false) PR.2.2.1 PR.2.2.2.1 PR.2.2.2.2 g ?_
 rw [Mk,Sr]
 by_cases h:n∈A
 ·rw [if_pos h,decide_eq_true h]
  try simp only [go_sem,Int.reduceEq,Int.reduceLT,Int.reduceLE,↓reduceIte,Nat.reduceEqDiff,Nat.reduceAdd,Nat.reduceSub,Nat.reduceLT,Nat.reduceLeDiff,Nat.reduceMul,reduceCtorEq,PR,Option.getD_some]
  exact Zu
 ·rw [if_neg h,decide_eq_false h]
  try simp only [go_sem,Int.reduceEq,Int.reduceLT,Int.reduceLE,↓reduceIte,Nat.reduceEqDiff,Nat.reduceAdd,Nat.reduceSub,Nat.reduceLT,Nat.reduceLeDiff,Nat.reduceMul,reduceCtorEq,PR,Option.getD_none]
  exact Zu
theorem QC (A:List Int)(r bc:Nat)(l:List Int)(rt:Rt)(s:Nat)(hs:s=1∨l=[])(σ:Store)(gc:σ.get bc=some (.cells [.val (.map (some r))]))(g:σ.get r=some (.map (ZM keI (Yf A)) A.length)) :
 Zj Tryz.prog 217 [.list rt s (Yz l),.val (.func (.func 218) #[] #[.pointer (some ⟨bc,0,none⟩)])] σ (Z8 (vb (l.any fun n=>!decide (n∈A))) σ):=by
 have h:=VE (.func (.func 218) #[] #[.pointer (some ⟨bc,0,none⟩)]) rt s (l.map vi) (fun _=>σ) (fun i=>match l[i]? with | some n=>!decide (n∈A) | none=>false) (hs.imp id (fun h=>by rw [h];rfl))
  (fun i e he _=>by
   obtain ⟨n,hn,rfl⟩:=Yo he
   rw [Y5]
   simp only [hn]
   exact CA A r bc n σ gc g)
 rw [List.map_map,List.length_map] at h
 refine h.mono fun x σ' hx=>?_
 refine hx.one ?_
 rw [List.any_eq_true]
 constructor
 ·rintro ⟨n,hn,hb⟩
  obtain ⟨i,hi,rfl⟩:=List.getElem_of_mem hn
  exact ⟨i,hi,by simp only [List.getElem?_eq_getElem hi];exact hb⟩
 ·rintro ⟨i,hi,hb⟩
  simp only [List.getElem?_eq_getElem hi] at hb
  exact ⟨l[i],List.getElem_mem hi,hb⟩
def XT (A:List Int)(t:Tm):Bool:=decide (Ur t=0)&&T7 t&&(Tc t 3).isEmpty&&!((Tc t 4).any fun n=>!decide (n∈A))
theorem VN (A:List Int)(r:Nat)(l:List Tm)(rt:Rt)(s:Nat)(hs:s=4∨l=[])(σ:Store)(g:σ.get r=some (.map (ZM keI (Yf A)) A.length)) :
 Zj Tryz.prog 167 [.val (.map (some r)),.list rt s (cH l)] σ (Z8 (vb (l.all (XT A))) σ):=by
 refine Zj.ok (by kernel_rfl) (fun hok=>?_)
 have hl:=(hok _ (List.mem_cons_of_mem _ List.mem_cons_self)).len
 rw [ci] at hl
 clear hok
 refine Zc [2] [] Tryz.func167 rfl (by kernel_rfl) ?_;rw [Tryz.ntmps167,Tryz.results167]
 refine fk ?_
 intro b2 hb2
 refine fk ?_
 refine Zv (mu:=[]) (dr:=[]) [4,6,9,10,11,12,13,14,15,16,17,18,19,20,21,22,23,24,25,26,27,28,29,30,31] (fun i:Nat=>[(9,vi i)]) (fun _=>(b2,.cells [.val (.map (some r))])::σ) (fun i=>i≤l.length∧(l.take i).all (XT A)=true) (fun i=>l.length-i) 0 (by kernel_rfl) ⟨by omega,by simp⟩ ⟨.refl _,trivial⟩ (.refl _) ?_
 rintro i ⟨hi,hb⟩
 try simp only [go_sem,Int.reduceEq,Int.reduceLT,Int.reduceLE,↓reduceIte,Nat.reduceEqDiff,Nat.reduceAdd,Nat.reduceSub,Nat.reduceLT,Nat.reduceLeDiff,Nat.reduceMul,reduceCtorEq,WP,ci]
 refine ⟨fun h1=>⟨?_,by omega,h1,fun e he=>?_⟩,fun h1=>?_⟩
 ·rcases hs with hs | hs
  ·rw [hs]
  ·rw [hs] at h1;simp at h1;omega
 ·rw [Int.toNat_natCast] at he
  obtain ⟨t,ht,rfl⟩:=cR he
  have h1r:=Jy t
  have h1c:=EH t
  have h1p:=Al t
  have h1v:=BP t
  have hd:XT A t=(decide (Ur t=0)&&T7 t&&(Tc t 3).isEmpty&&!((Tc t 4).any fun n=>!decide (n∈A))):=rfl
  have hsp:l.all (XT A)=(XT A t&&(l.drop (i+1)).all (XT A)):=by
   have:=Ys ht
   rw [this]
   rw [List.all_append,hb,List.all_cons,← this];simp
  generalize Ur t=e at h1r hd
  generalize T7 t=c at h1c hd
  generalize Tc t 3=p3 at h1p hd
  generalize Tc t 4=p4 at h1v hd
  have hnx:(l.take (i+1)).all (XT A)=XT A t:=by rw [List.take_add_one,ht,Option.toList_some,List.all_append,hb];simp
  generalize XT A t=q at hd hsp hnx
  obtain ⟨ka,na,sa,la⟩:=t
  simp only [co] at h1r h1c h1p h1v
  try simp only [go_sem,Int.reduceEq,Int.reduceLT,Int.reduceLE,↓reduceIte,Nat.reduceEqDiff,Nat.reduceAdd,Nat.reduceSub,Nat.reduceLT,Nat.reduceLeDiff,Nat.reduceMul,reduceCtorEq,WP,co]
  intro b6 hb6
  have gr:Store.get ((b6,.cells [.val (.int .i64 ka),.val (.int .i64 na),.val (.string sa),.list .none 4 (cH la)])::(b2,.cells [.val (.map (some r))])::σ) r=some (.map (ZM keI (Yf A)) A.length):=by
   rw [Za (fun e=>by have:=Zm hb6.2;rw [e,g] at this;cases this),Za (fun e=>by have:=Zm hb2;rw [e,g] at this;cases this),g]
  refine eR ?_
  refine h1r.use ?_
  refine eR ?_
  refine ⟨fun e0=>?_,fun e0=>?_⟩
  ·refine h1c.use ?_
   cases c with
   | false =>
     refine eG ?_
     have hq:q=false:=by rw [hd];simp_all
     rw [hsp,hq]
     exact eI
   | true =>
     refine eR ?_
     refine h1p.use ?_
     cases p3 with
     | cons x p3 =>
       refine eG ?_
       refine ⟨fun _=>?_,fun h=>absurd h (by omega)⟩
       refine eG ?_
       have hq:q=false:=by rw [hd];simp_all
       rw [hsp,hq]
       exact eI
     | nil =>
       try simp only [go_sem,Int.reduceEq,Int.reduceLT,Int.reduceLE,↓reduceIte,Nat.reduceEqDiff,Nat.reduceAdd,Nat.reduceSub,Nat.reduceLT,Nat.reduceLeDiff,Nat.reduceMul,reduceCtorEq,WP,hb6,List.map_nil,List.length_nil]
       refine ⟨fun h=>absurd h (by omega),fun _=>?_⟩
       refine h1v.use ?_
       refine eR ?_
       refine (NW A r b2 p4 .none 1 (.inl rfl) _ (by rw [Za (Ne.symm hb6.1),Zi]) gr).only ?_
       cases ha:(p4.any fun n=>!decide (n∈A)) with
       | true =>
         rw [ha] at hd
         refine eG ?_
         have hq:q=false:=by rw [hd];simp_all
         rw [hsp,hq]
         exact eI
       | false =>
         rw [ha] at hd
         refine fk ?_
         rw [show IntKind.i64.wrap ((i:Int)+1)=((i+1:Nat):Int) from Zp (by omega) (by omega)]
         refine .mk (i+1) ⟨by omega,?_⟩ (by omega) ⟨.refl _,trivial⟩ (by repeat first | exact Zf.turn _ rfl | refine Zf.put rfl ?_) ((Sub.refl _).skip _)
         rw [hnx,hd];simp [e0]
  ·refine eG ?_
   have hq:q=false:=by rw [hd];simp_all
   rw [hsp,hq]
   exact eI
 ·have hil:l.take i=l:=List.take_of_length_le (by omega)
  rw [hil] at hb
  rw [hb]
  exact ZE (.refl _) ((Sub.refl σ).skip _)
end Go.Vx
end
section
set_option maxRecDepth 100000
namespace Go.Vx
open Go.Proofs
theorem XK:(Zz Tryz.prog 150 0=some 0)∧(Zh Tryz.prog 9=some 1)∧(Ze Tryz.prog 9=some false)∧(Zz Tryz.prog 150 1=some 1)∧(Zh Tryz.prog 126=some 1)∧(Ze Tryz.prog 126=some false)∧(Tryz.prog.underlying 4=some .bool)∧(Zz Tryz.prog 224 0=some 0)∧(Zh Tryz.prog 64=some 1)∧(Ze Tryz.prog 64=some false)∧(Zh Tryz.prog 40=some 1)∧(ZA Tryz.prog 126=some 150)∧(Zh Tryz.prog 150=some 2)∧(Ze Tryz.prog 150=some true)∧(Zl Tryz.prog 150=some (.agg #[(.string ⟨#[]⟩),(.slice none 0 0)]))∧(Zh Tryz.prog 270=some 1)∧(Ze Tryz.prog 270=some false)∧(Tryz.prog.underlying 126=some (.slice 150)):=by
 refine ⟨?_,?_,?_,?_,?_,?_,?_,?_,?_,?_,?_,?_,?_,?_,?_,?_,?_,?_⟩<;>first | trivial | kernel_rfl
theorem Jh:(Zl Tryz.prog 270=some .nilFunc)∧(Zh Tryz.prog 270=some 1)∧(Ze Tryz.prog 270=some false)∧(Zh Tryz.prog 150=some 2)∧(Ze Tryz.prog 150=some true):=by
 refine ⟨?_,?_,?_,?_,?_⟩<;>first | trivial | kernel_rfl
theorem PW:(Zh Tryz.prog 150=some 2)∧(Ze Tryz.prog 150=some true)∧(Zl Tryz.prog 40=some (.int .i64 0))∧(Zh Tryz.prog 40=some 1)∧(Ze Tryz.prog 40=some false):=by
 refine ⟨?_,?_,?_,?_,?_⟩<;>first | trivial | kernel_rfl
abbrev W1:Str:={ data:=#[45,62] }
mutual
def wfT:Ty→Bool
 | .mk s l=>(decide (s=W1) == decide (l.length=2))&&(decide (s=W1) || decide (l.length=0))&&Ub l
def Ub:List Ty→Bool
 | []=>true
 | t::r=>wfT t&&Ub r
end
mutual
def okT (types:List Str):Ty→Bool
 | .mk s l=>(decide (s=W1) || decide (s∈types))&&Vn types l
def Vn (types:List Str):List Ty→Bool
 | []=>true
 | t::r=>okT types t&&Vn types r
end
theorem Vt (l m:List Ty):Ub (l++m)=(Ub l&&Ub m):=by
 induction l with
 | nil=>rfl
 | cons a r ih=>simp only [List.cons_append,Ub,ih,Bool.and_assoc]
theorem Qc (ts:List Str)(l m:List Ty):Vn ts (l++m)=(Vn ts l&&Vn ts m):=by
 induction l with
 | nil=>rfl
 | cons a r ih=>simp only [List.cons_append,Vn,ih,Bool.and_assoc]
def ctV (bp be bw:Nat):Value:=.func (.func 211) #[] #[.pointer (some ⟨bp,0,none⟩),.pointer (some ⟨be,0,none⟩),.pointer (some ⟨bw,0,none⟩)]
theorem EC (bp be bw:Nat)(types:List Str)(rt:Rt)(sz:Nat)(hs:sz=1∨types=[])(rest:List AV):∀ (t:Ty) (e:Int) (σ:Store),σ.get bp=some (.cells (.list rt sz (Tk types)::rest))→σ.get be=some (.cells [vi e])→σ.get bw=some (.cells [.val (ctV bp be bw)]) →
 Zj Tryz.prog 211 [.agg t.emb,.val (.pointer (some ⟨bp,0,none⟩)),.val (.pointer (some ⟨be,0,none⟩)),.val (.pointer (some ⟨bw,0,none⟩))] σ
  (fun r σ'=>∃ e',σ'=σ.set be (.cells [vi e'])∧((wfT t=true∧r=.ret (.tup [])∧e'=if okT types t=true then e else 40)∨(wfT t=false∧r=.pan (YE 6)))):=by
 intro t
 induction t using dI with | h s l ih=>?_
 intro e σ gp ge gw
 refine Zj.ok (by kernel_rfl) (fun hok=>?_)
 have hlen:=(((hok _ List.mem_cons_self).agg (c:=.list .none 2 (cJ l)) (by simp [cG])).len)
 rw [cj] at hlen
 clear hok
 simp only [cG]
 have n1:bp≠be:=by intro h;rw [h,ge] at gp;simp at gp
 have n2:bw≠be:=by intro h;rw [h,ge] at gw;simp [ctV] at gw
 refine Zc [] [] Tryz.func211 rfl (by kernel_rfl) ?_;rw [Tryz.ntmps211,Tryz.results211]
 try simp only [go_sem,seval,XK,cj]
 have head_f:∀ (h:((decide (s=W1) == decide (l.length=2))&&(decide (s=W1) || decide (l.length=0)))=false),wfT (.mk s l)=false:=fun h=>by simp only [wfT,h,Bool.false_and]
 refine ⟨fun q1=>⟨fun q2=>?_,fun q2=>?_⟩,fun q1=>?_⟩
 ·refine VA (fun hm=>?_) (fun hm=>?_)
  ·have hm:l.length=0:=by simpa using hm
   have hhead:((decide (s=W1) == decide (l.length=2))&&(decide (s=W1) || decide (l.length=0)))=true:=by simp [W1,q2,hm]
   try simp only [go_sem,seval,XK,cj,q2,gp,n1]
   refine (Z5 types s rt sz hs).use ?_
   try simp only [go_sem,seval,XK,cj,q2,ge]
   refine ⟨fun q3=>?_,fun q3=>?_⟩
   ·obtain ⟨e0,he0⟩:∃ e0:Int,e0=40:=⟨_,rfl⟩
    have hfin:∀ x2,x2=(if Vn types l=true then e0 else 40)→x2=if okT types (.mk s l)=true then e else 40:=by
     intro x2 h;rw [h,he0];simp [okT,W1,q2,q3]
    refine Zv (mu:=[]) (dr:=[]) [6,41,42,43,44,45,46,47,48] (fun x:Nat×Int=>[(41,vi x.1)]) (fun x=>σ.set be (.cells [vi x.2]))
     (fun x=>x.1≤l.length∧Ub (l.take x.1)=true∧x.2=(if Vn types (l.take x.1)=true then e0 else 40)) (fun x=>l.length-x.1) (0,e0) (by kernel_rfl) ⟨by simp,by simp [Ub],by simp [Vn]⟩ ⟨.refl _,trivial⟩ (by first | (rw [he0];exact .refl _) | (rw [he0,Yy ge];exact .refl _)) ?_
    rintro ⟨i,x2⟩ ⟨hi,hwf,hx2⟩
    dsimp only at hi hwf hx2
    try simp only [go_sem,seval,XK,cj]
    refine ⟨fun hi2=>⟨by omega,hi2,fun c hc=>?_⟩,fun hi2=>?_⟩
    ·rw [Int.toNat_natCast] at hc
     obtain ⟨a,ha,rfl⟩:=cX hc
     have iha:=ih a (List.mem_of_getElem? ha) x2 (σ.set be (.cells [vi x2])) (by rw [Zb n1];exact gp) (Zd ge) (by rw [Zb n2];exact gw)
     obtain ⟨sa,la⟩:=a
     try simp only [go_sem,seval,XK,cG]
     intro b9 hb9
     try simp only [go_sem,seval,XK,cG,hb9,n2,gw,ctV]
     refine (iha.sub (.cons _ _)).mono ?_
     have hsp:=Ys ha
     rintro r _ ⟨e',rfl,hr⟩
     rw [Zw]
     rcases hr with ⟨hw,rfl,he'⟩ | ⟨hw,rfl⟩
     ·refine iw ?_
      rw [show IntKind.i64.wrap ((i:Int)+1)=((i+1:Nat):Int) from Zp (by omega) (by omega)]
      refine .mk (i+1,e') ⟨by dsimp only;omega,?_,?_⟩ (by dsimp only;omega) ⟨.refl _,trivial⟩ (by repeat first | exact Zf.turn _ rfl | refine Zf.put rfl ?_) (.refl _)
      ·rw [List.take_add_one,ha,Option.toList_some,Vt,hwf];simp [Ub,hw]
      ·rw [List.take_add_one,ha,Option.toList_some,Qc,he',hx2]
       cases Vn types (l.take i)<;>cases h2:okT types (.mk sa la)<;>simp [Vn,h2]
     ·refine iw ?_
      refine .mk (.refl _) ⟨e',rfl,.inr ⟨?_,rfl⟩⟩
      rw [wfT,hhead,hsp,Vt]
      simp [Ub,hw]
    ·have hil:l.take i=l:=List.take_of_length_le (by omega)
     rw [hil] at hwf hx2
     exact .mk (.refl _) (.refl _) ⟨x2,rfl,.inl ⟨by rw [wfT,hhead,hwf];rfl,rfl,hfin _ hx2⟩⟩
   ·obtain ⟨e0,he0⟩:∃ e0:Int,e0=e:=⟨_,rfl⟩
    have hfin:∀ x2,x2=(if Vn types l=true then e0 else 40)→x2=if okT types (.mk s l)=true then e else 40:=by
     intro x2 h;rw [h,he0];simp [okT,q3]
    refine Zv (mu:=[]) (dr:=[]) [6,41,42,43,44,45,46,47,48] (fun x:Nat×Int=>[(41,vi x.1)]) (fun x=>σ.set be (.cells [vi x.2]))
     (fun x=>x.1≤l.length∧Ub (l.take x.1)=true∧x.2=(if Vn types (l.take x.1)=true then e0 else 40)) (fun x=>l.length-x.1) (0,e0) (by kernel_rfl) ⟨by simp,by simp [Ub],by simp [Vn]⟩ ⟨.refl _,trivial⟩ (by first | (rw [he0];exact .refl _) | (rw [he0,Yy ge];exact .refl _)) ?_
    rintro ⟨i,x2⟩ ⟨hi,hwf,hx2⟩
    dsimp only at hi hwf hx2
    try simp only [go_sem,seval,XK,cj]
    refine ⟨fun hi2=>⟨by omega,hi2,fun c hc=>?_⟩,fun hi2=>?_⟩
    ·rw [Int.toNat_natCast] at hc
     obtain ⟨a,ha,rfl⟩:=cX hc
     have iha:=ih a (List.mem_of_getElem? ha) x2 (σ.set be (.cells [vi x2])) (by rw [Zb n1];exact gp) (Zd ge) (by rw [Zb n2];exact gw)
     obtain ⟨sa,la⟩:=a
     try simp only [go_sem,seval,XK,cG]
     intro b9 hb9
     try simp only [go_sem,seval,XK,cG,hb9,n2,gw,ctV]
     refine (iha.sub (.cons _ _)).mono ?_
     have hsp:=Ys ha
     rintro r _ ⟨e',rfl,hr⟩
     rw [Zw]
     rcases hr with ⟨hw,rfl,he'⟩ | ⟨hw,rfl⟩
     ·refine iw ?_
      rw [show IntKind.i64.wrap ((i:Int)+1)=((i+1:Nat):Int) from Zp (by omega) (by omega)]
      refine .mk (i+1,e') ⟨by dsimp only;omega,?_,?_⟩ (by dsimp only;omega) ⟨.refl _,trivial⟩ (by repeat first | exact Zf.turn _ rfl | refine Zf.put rfl ?_) (.refl _)
      ·rw [List.take_add_one,ha,Option.toList_some,Vt,hwf];simp [Ub,hw]
      ·rw [List.take_add_one,ha,Option.toList_some,Qc,he',hx2]
       cases Vn types (l.take i)<;>cases h2:okT types (.mk sa la)<;>simp [Vn,h2]
     ·refine iw ?_
      refine .mk (.refl _) ⟨e',rfl,.inr ⟨?_,rfl⟩⟩
      rw [wfT,hhead,hsp,Vt]
      simp [Ub,hw]
    ·have hil:l.take i=l:=List.take_of_length_le (by omega)
     rw [hil] at hwf hx2
     exact .mk (.refl _) (.refl _) ⟨x2,rfl,.inl ⟨by rw [wfT,hhead,hwf];rfl,rfl,hfin _ hx2⟩⟩
  ·have hm:¬ l.length=0:=by simpa using hm
   refine iw ?_
   exact .mk (.refl _) ⟨e,(Yy ge).symm,.inr ⟨head_f (by simp [W1,q2,hm]),rfl⟩⟩
 ·refine VA (fun _=>?_) (fun hm=>by simp at hm)
  have hhead:((decide (s=W1) == decide (l.length=2))&&(decide (s=W1) || decide (l.length=0)))=true:=by
   have:l.length=2:=by simp only [q2,decide_true] at q1;have:=q1.symm;simp only [decide_eq_true_eq] at this;omega
   simp [W1,q2,this]
  try simp only [go_sem,seval,XK,cj]
  refine ⟨fun h=>absurd q2 h,fun _=>?_⟩
  obtain ⟨e0,he0⟩:∃ e0:Int,e0=e:=⟨_,rfl⟩
  have hfin:∀ x2,x2=(if Vn types l=true then e0 else 40)→x2=if okT types (.mk s l)=true then e else 40:=by
   intro x2 h;rw [h,he0];simp [okT,W1,q2]
  refine Zv (mu:=[]) (dr:=[]) [6,41,42,43,44,45,46,47,48] (fun x:Nat×Int=>[(41,vi x.1)]) (fun x=>σ.set be (.cells [vi x.2]))
   (fun x=>x.1≤l.length∧Ub (l.take x.1)=true∧x.2=(if Vn types (l.take x.1)=true then e0 else 40)) (fun x=>l.length-x.1) (0,e0) (by kernel_rfl) ⟨by simp,by simp [Ub],by simp [Vn]⟩ ⟨.refl _,trivial⟩ (by first | (rw [he0];exact .refl _) | (rw [he0,Yy ge];exact .refl _)) ?_
  rintro ⟨i,x2⟩ ⟨hi,hwf,hx2⟩
  dsimp only at hi hwf hx2
  try simp only [go_sem,seval,XK,cj]
  refine ⟨fun hi2=>⟨by omega,hi2,fun c hc=>?_⟩,fun hi2=>?_⟩
  ·rw [Int.toNat_natCast] at hc
   obtain ⟨a,ha,rfl⟩:=cX hc
   have iha:=ih a (List.mem_of_getElem? ha) x2 (σ.set be (.cells [vi x2])) (by rw [Zb n1];exact gp) (Zd ge) (by rw [Zb n2];exact gw)
   obtain ⟨sa,la⟩:=a
   try simp only [go_sem,seval,XK,cG]
   intro b9 hb9
   try simp only [go_sem,seval,XK,cG,hb9,n2,gw,ctV]
   refine (iha.sub (.cons _ _)).mono ?_
   have hsp:=Ys ha
   rintro r _ ⟨e',rfl,hr⟩
   rw [Zw]
   rcases hr with ⟨hw,rfl,he'⟩ | ⟨hw,rfl⟩
   ·refine iw ?_
    rw [show IntKind.i64.wrap ((i:Int)+1)=((i+1:Nat):Int) from Zp (by omega) (by omega)]
    refine .mk (i+1,e') ⟨by dsimp only;omega,?_,?_⟩ (by dsimp only;omega) ⟨.refl _,trivial⟩ (by repeat first | exact Zf.turn _ rfl | refine Zf.put rfl ?_) (.refl _)
    ·rw [List.take_add_one,ha,Option.toList_some,Vt,hwf];simp [Ub,hw]
    ·rw [List.take_add_one,ha,Option.toList_some,Qc,he',hx2]
     cases Vn types (l.take i)<;>cases h2:okT types (.mk sa la)<;>simp [Vn,h2]
   ·refine iw ?_
    refine .mk (.refl _) ⟨e',rfl,.inr ⟨?_,rfl⟩⟩
    rw [wfT,hhead,hsp,Vt]
    simp [Ub,hw]
  ·have hil:l.take i=l:=List.take_of_length_le (by omega)
   rw [hil] at hwf hx2
   exact .mk (.refl _) (.refl _) ⟨x2,rfl,.inl ⟨by rw [wfT,hhead,hwf];rfl,rfl,hfin _ hx2⟩⟩
 ·refine VA (fun hm=>by simp at hm) (fun _=>?_)
  refine iw ?_
  refine .mk (.refl _) ⟨e,(Yy ge).symm,.inr ⟨head_f ?_,rfl⟩⟩
  by_cases q2:s=W1
  ·have:¬ l.length=2:=by intro h;exact q1 (by simp [q2,h])
   simp [q2,this]
  ·have:l.length=2:=by
    by_cases h:l.length=2
    ·exact h
    ·exact absurd (by have h':¬ ((l.length:Int)=2):=by omega
                      rw [decide_eq_false h',decide_eq_false (show ¬ s={ data:=#[45,62] } from q2)]) q1
   simp [q2,this]
def U3 (types:List Str)(t:Ty):Int:=if XZ t.shape≠0 then XZ t.shape else if wfT t=true then (if okT types t=true then 0 else 40) else 6
theorem bC (bp be bt:Nat)(types:List Str)(rt:Rt)(sz:Nat)(hs:sz=1∨types=[])(rest:List AV)(t:Ty)(e:Int)(σ:Store)(gp:σ.get bp=some (.cells (.list rt sz (Tk types)::rest)))(ge:σ.get be=some (.cells [vi e]))(gt:σ.get bt=some (.cells t.emb)) :
 Zj Tryz.prog 210 [.val (.pointer (some ⟨bp,0,none⟩)),.val (.pointer (some ⟨be,0,none⟩)),.val (.pointer (some ⟨bt,0,none⟩))] σ
  (fun r σ'=>∃ e',σ'=σ.set be (.cells [vi e'])∧((wfT t=true∧r=.ret (.tup [])∧e'=if okT types t=true then e else 40)∨(wfT t=false∧r=.pan (YE 6)))):=by
 obtain ⟨s,l⟩:=t
 simp only [cG] at gt
 refine Zc [] [] Tryz.func210 rfl (by kernel_rfl) ?_;rw [Tryz.ntmps210,Tryz.results210]
 try simp only [go_sem,seval,Jh]
 intro bw hbw
 try simp only [go_sem,seval,Jh,hbw,gp,ge,gt]
 refine (EC bp be bw types rt sz hs rest (.mk s l) e _ (by rw [Zy hbw (by rw [gp];rfl)];exact gp) (by rw [Zy hbw (by rw [ge];rfl)];exact ge) (by rw [Zi];rfl)).mono ?_
 rintro r _ ⟨e',rfl,hr⟩
 rw [Sk hbw (by rw [ge];rfl)]
 rcases hr with ⟨hw,rfl,he⟩ | ⟨hw,rfl⟩
 ·try simp only [go_sem,seval,Jh]
  exact .mk (.refl _) (.cons _ _) ⟨e',rfl,.inl ⟨hw,rfl,he⟩⟩
 ·try simp only [go_sem,seval,Jh]
  exact .mk (.cons _ _) ⟨e',rfl,.inr ⟨hw,rfl⟩⟩
theorem MR (types:List Str)(rt:Rt)(sz:Nat)(hs:sz=1∨types=[])(c1 c2 c3 c4:AV)(h1:c1.one=true)(h2:c2.one=true)(h3:c3.one=true)(h4:c4.one=true)(t:Ty) :
 Pur Tryz.prog 164 [.agg [.list rt sz (Tk types),c1,c2,c3,c4],.agg t.emb] (vi (U3 types t)):=by
 intro σ
 have hsz:=LG t
 obtain ⟨s,l⟩:=t
 simp only [cG] at hsz ⊢
 refine Zc [2,3] [] Tryz.func164 rfl (by kernel_rfl) ?_;rw [Tryz.ntmps164,Tryz.results164]
 try simp only [go_sem,seval,PW]
 intro b2 hb2 b3 hb3
 try simp only [go_sem,seval,PW,hb2,hb3]
 refine hsz.use ?_
 try simp only [go_sem,seval,PW,hb2,hb3]
 refine ⟨fun q=>?_,fun q=>?_⟩
 ·have:U3 types (.mk s l)=XZ (Ty.mk s l).shape:=by unfold U3;rw [if_pos q]
  rw [this]
  exact eI
 ·intro b6 hb6
  have g2:Store.get ((b3,AObj.cells [vs s,.list .none 2 (cJ l)])::(b2,.cells [.list rt sz (Tk types),c1,c2,c3,c4])::σ) b2=some (.cells [.list rt sz (Tk types),c1,c2,c3,c4]):=by rw [Zy hb3 (by rw [Zi];rfl),Zi]
  have g3:Store.get ((b3,AObj.cells [vs s,.list .none 2 (cJ l)])::(b2,.cells [.list rt sz (Tk types),c1,c2,c3,c4])::σ) b3=some (.cells [vs s,.list .none 2 (cJ l)]):=Zi _ _ _
  try simp only [go_sem,seval,PW,hb2,hb3,hb6]
  refine UQ _ _ _ (fun b hb=>?_)
  rw [Y5]
  refine (bC b2 b6 b3 types rt sz hs [c1,c2,c3,c4] (.mk s l) 0 _ ?_ ?_ ?_).mono ?_
  ·rw [Zy hb (by rw [Zy hb6 (by rw [g2];rfl),g2];rfl),Zy hb6 (by rw [g2];rfl),g2]
  ·rw [Zy hb (by rw [Zi];rfl),Zi]
  ·rw [Zy hb (by rw [Zy hb6 (by rw [g3];rfl),g3];rfl),Zy hb6 (by rw [g3];rfl),g3];rfl
  rintro r _ ⟨e',rfl,hr⟩
  rw [Sk hb (by rw [Zi];rfl),Z6]
  refine ⟨_,rfl,?_⟩
  rcases hr with ⟨hw,rfl,he⟩ | ⟨hw,rfl⟩
  ·try simp only [go_sem,seval,PW]
   have:U3 types (.mk s l)=e':=by unfold U3;rw [if_neg (not_not_intro q),if_pos hw,he]
   rw [this]
   exact iq
  ·refine ⟨6,rfl,?_⟩
   try simp only [go_sem,seval,PW]
   have:U3 types (.mk s l)=6:=by unfold U3;rw [if_neg (not_not_intro q),if_neg (by rw [hw];simp)]
   rw [this]
   exact iq
end Go.Vx
end
