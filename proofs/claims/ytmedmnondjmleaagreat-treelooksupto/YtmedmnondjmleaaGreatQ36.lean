/- Part Q36 of the proof of treeLooksProved: the walk of the program on abstract values, and the plain law. -/
import Derived.Test.YtmedmnondjmleaaGreatQ35
set_option linter.unusedVariables false
set_option linter.unusedSimpArgs false
section
set_option maxRecDepth 100000
namespace Go.Vx
open Go.Proofs
theorem LB:(Zh Tryz.prog 25=some 2)∧(Ze Tryz.prog 25=some true)∧(Zh Tryz.prog 30=some 6)∧(Ze Tryz.prog 30=some true):=by
 refine ⟨?_,?_,?_,?_⟩<;>first | trivial | kernel_rfl
theorem aY {κ:Type}[DecidableEq κ](acc:List κ)(x:κ):XU (Y1 acc) x=if x∈acc then some (vb true) else none:=by
 unfold XU
 by_cases h:x∈acc
 ·rw [if_pos h]
  have:∃ e,(Y1 acc).find? (fun e=>decide (e.1=x))=some e:=by
   rw [← Option.isSome_iff_exists,List.find?_isSome]
   obtain ⟨i,hi,rfl⟩:=List.getElem_of_mem h
   refine ⟨(acc[i],vb true,i),?_,by simp⟩
   unfold Y1
   rw [List.mem_map]
   exact ⟨(acc[i],i),by rw [List.mem_zipIdx_iff_getElem?];simp,rfl⟩
  obtain ⟨e,he⟩:=this
  rw [he]
  have hm:=List.mem_of_find?_eq_some he
  unfold Y1 at hm
  obtain ⟨p,_,rfl⟩:=List.mem_map.1 hm
  rfl
 ·rw [if_neg h]
  have:(Y1 acc).find? (fun e=>decide (e.1=x))=none:=by
   rw [List.find?_eq_none]
   intro e he
   simp only [decide_eq_true_eq]
   intro hx
   apply h
   rw [← hx,← P9 acc]
   exact List.mem_map_of_mem (f:=(·.1)) he
  rw [this];rfl
theorem P8 (l:List Row)(a:Nat):(YN l a).length≤l.length:=by
 unfold YN
 have h1:=(Xj (ltOf T6) (dd (((Wx l a).filter fun c=>!decide (c=XB)).map Cls.name))).length_eq
 unfold V4
 rw [h1]
 refine Nat.le_trans (Nm _) ?_
 rw [List.length_map]
 refine Nat.le_trans (List.length_filter_le _ _) ?_
 simp [Wx]
theorem SY (a:Int)(l:List Row):∀ c:List Cs,WH a l c=c.all fun q=>YG q.tree (ofS l a ⟨false,q.name⟩)
 | []=>rfl
 | .mk s t::r=>by simp only [WH,LO,List.all_cons,Cs.tree,Cs.name,SY a l r]
theorem OZ {n:Nat}{l:List Row}(h:∀ r∈l,r.classes.length=n)(a:Int)(c:Cls):∀ r∈ofS l a c,r.classes.length=n:=by
 intro r hr
 unfold ofS at hr
 obtain ⟨q,hq,rfl⟩:=List.mem_map.1 hr
 simp only [YM,List.length_set]
 exact h q (List.mem_filter.1 hq).1
theorem D8 (l:List Row)(a:Int):ofS l a XB=l.map (YM a):=by
 unfold ofS
 congr 1
 rw [List.filter_eq_self]
 intro r _
 simp [YD,XB]
def V2 (n:Nat)(t:Tr):Prop:=∀ l:List Row,l.length≤137438953472→(∀ r∈l,r.classes.length=n)→Pur Tryz.prog 66 [.agg t.emb,.list .none 3 (cC l)] (vb (YG t l))
def ofV (b3 b2:Nat):Value:=.func (.func 112) #[] #[.pointer (some ⟨b3,0,none⟩),.pointer (some ⟨b2,0,none⟩)]
def OT (b8:Nat):Value:=.func (.func 115) #[] #[.pointer (some ⟨b8,0,none⟩)]
section
variable (n:Nat) (k:Int) (p:List Pick) (a:Int) (y:List Tr) (cs:List Cs) (e:List Tr) (l:List Row)
theorem GP (q:Cs)(ih:V2 n q.tree)(h0:0≤a)(han:a<n)(hlen:l.length≤137438953472)(hc:∀ r∈l,r.classes.length=n)(b8 b3 b2:Nat)(σ:Store)(g8:σ.get b8=some (.cells [.val (ofV b3 b2)]))(g3:σ.get b3=some (rwO l))(g2:σ.get b2=some (trO k p a y cs e)) :
 Zj Tryz.prog 115 [.agg q.emb,.val (.pointer (some ⟨b8,0,none⟩))] σ (Z8 (vb (!YG q.tree (ofS l a ⟨false,q.name⟩))) σ):=by
 have hof:=fun (S:Store) (hs:XS σ S)=>BI k p a y cs e l ⟨false,q.name⟩ rfl h0 hlen (fun r hr=>by rw [hc r hr];omega) b3 b2 S (hs _ _ g3) (hs _ _ g2)
 have hr:=ih (ofS l a ⟨false,q.name⟩) (Nat.le_trans (RA _ _ _) hlen) (OZ hc _ _)
 obtain ⟨s,t⟩:=q
 obtain ⟨k1,p1,a1,y1,c1,e1⟩:=t
 simp only [di,Cs.name,Cs.tree,Cls.emb,cm] at hof hr ⊢
 refine Zc [] [(1,7,0)] Tryz.func115 rfl (by kernel_rfl) ?_;rw [Tryz.ntmps115,Tryz.results115]
 try simp only [go_sem,Int.reduceEq,Int.reduceLT,Int.reduceLE,↓reduceIte,Nat.reduceEqDiff,Nat.reduceAdd,Nat.reduceSub,Nat.reduceLT,Nat.reduceLeDiff,Nat.reduceMul,reduceCtorEq,Jl,g8,ofV]
 refine Pf.mk (v:=.list .none 3 (cC (ofS l a ⟨false,s⟩))) (fun S hs=>by rw [Y5];exact hof S hs) ?_
 refine gR ?_
 refine hr.use ?_
 refine gR ?_
 cases YG (.mk k1 p1 a1 y1 c1 e1) (ofS l a ⟨false,s⟩)<;>try simp only [go_sem,Int.reduceEq,Int.reduceLT,Int.reduceLE,↓reduceIte,Nat.reduceEqDiff,Nat.reduceAdd,Nat.reduceSub,Nat.reduceLT,Nat.reduceLeDiff,Nat.reduceMul,reduceCtorEq,Jl]<;>exact Zu
theorem LP (ih:∀ q∈cs,V2 n q.tree)(h0:0≤a)(han:a<n)(hlen:l.length≤137438953472)(hc:∀ r∈l,r.classes.length=n)(b8 b3 b2:Nat)(σ:Store)(g8:σ.get b8=some (.cells [.val (ofV b3 b2)]))(g3:σ.get b3=some (rwO l))(g2:σ.get b2=some (trO k p a y cs e)) :
 Zj Tryz.prog 114 [.list .none 7 (cP cs),.val (OT b8)] σ (Z8 (vb (!WH a l cs)) σ):=by
 have h:=T5 (OT b8) .none 7 (cP cs) (fun _=>σ) (fun i=>match cs[i]? with | some q=>!YG q.tree (ofS l a ⟨false,q.name⟩) | none=>false) (.inl rfl) (fun i e he=>by obtain ⟨t,_,rfl⟩:=da he;exact t.emb_len)
  (fun i e' he _=>by
   obtain ⟨q,hq,rfl⟩:=da he
   unfold OT
   rw [Y5]
   simp only [hq]
   exact GP n k p a y cs e l q (ih q (List.mem_of_getElem? hq)) h0 han hlen hc b8 b3 b2 σ g8 g3 g2)
 refine h.mono fun x σ' hx=>?_
 refine hx.one ?_
 rw [cF,SY]
 have:(!cs.all fun q=>YG q.tree (ofS l a ⟨false,q.name⟩))=cs.any fun q=>!YG q.tree (ofS l a ⟨false,q.name⟩):=by
  rw [List.any_eq_not_all_not];simp
 rw [this,List.any_eq_true]
 constructor
 ·rintro ⟨q,hq,hb⟩
  obtain ⟨i,hi,rfl⟩:=List.getElem_of_mem hq
  exact ⟨i,hi,by simp only [List.getElem?_eq_getElem hi];exact hb⟩
 ·rintro ⟨i,hi,hb⟩
  simp only [List.getElem?_eq_getElem hi] at hb
  exact ⟨_,List.getElem_mem hi,hb⟩
end
def Sq (a:Int)(xs:List RB)(i:Nat):List (List AV):=(xs.take i).map (fun x=>(YM a x.row).emb)++(xs.drop i).map rbE
theorem Cd {a:Int}{xs:List RB}{i:Nat}{x:RB}(h:xs[i]?=some x):(Sq a xs i)[i]?=some (rbE x):=by
 have hi:=(List.getElem?_eq_some_iff.1 h).1
 unfold Sq
 have hl:((xs.take i).map (fun x=>(YM a x.row).emb)).length=i:=by rw [List.length_map,List.length_take];omega
 rw [List.getElem?_append_right (by omega),hl,Nat.sub_self,List.getElem?_map,List.getElem?_drop,Nat.add_zero,h];rfl
theorem Cb {a:Int}{xs:List RB}{i:Nat}{x:RB}(h:xs[i]?=some x):(Sq a xs i).set i (YM a x.row).emb=Sq a xs (i+1):=by
 have hi:=(List.getElem?_eq_some_iff.1 h).1
 have hd:xs.drop i=x::xs.drop (i+1):=List.drop_eq_getElem_cons hi |>.trans (by rw [(List.getElem?_eq_some_iff.1 h).2])
 have hl:((xs.take i).map (fun x=>(YM a x.row).emb)).length=i:=by rw [List.length_map,List.length_take];omega
 unfold Sq
 rw [hd,List.take_add_one,h,Option.toList_some,List.map_append,List.map_cons,List.set_append_right _ _ (by omega),hl,Nat.sub_self]
 simp
theorem Cc (a:Int)(xs:List RB)(i:Nat):(Sq a xs i).length=xs.length:=by unfold Sq;simp;omega
theorem Ce {a:Int}{xs:List RB}{l:List Row}(h:xs.map RB.row=l):Sq a xs xs.length=cC (ofS l a XB):=by
 unfold Sq
 rw [D8,← h]
 simp [cC]
def isO (c:List Cs)(i:Nat):AObj:=.map (ZM keS (Y1 (dd ((c.take i).map Cs.name)))) (dd ((c.take i).map Cs.name)).length
theorem DO (n:Nat)(hn8:n≤1000)(t:Tr):trN t≤bigN→Shp (n:Int) t→V2 n t:=by
 refine Xa (M:=fun t=>trN t≤bigN→Shp (n:Int) t→V2 n t) (fun t ih hB hsh=>?_) t
 intro l hlen hc σ
 refine Zj.nodup (by kernel_rfl) (fun hnd=>?_)
 have hbig:bigN=1073741824:=rfl
 have hpl:=WM t
 cases hsh with
 | mk _ h1 hp =>
 have hih:∀ x∈ZH t,V2 n x:=fun x hx=>ih x (Yj hx) (by have:=Yj hx;omega) (hp x hx)
 obtain ⟨k,p,a,y,cs,e⟩:=t
 simp only [ZH,List.length_append,List.length_map] at hpl
 rcases h1 with ⟨rfl,rfl,rfl,rfl,rfl,hinc⟩ | ⟨rfl,ha0,han,rfl,⟨y0,rfl⟩,⟨e0,rfl⟩,hbc⟩
 ·have hpk:=OX l .none 3 (.inl rfl)
  have heq:=Hj p (l.map Row.pick) .none .none 2 2 (.inl rfl) (.inl rfl)
  have har:=Dj l
  have hsp:YG (.mk 1 p 0 [] [] []) l=(decide (p=l.map Row.pick)&&!(l.any fun r=>r.classes.any fun c=>!c.any)):=by
   simp only [YG,if_true]
   congr 1
   rw [Bool.eq_iff_iff]
   simp
  rw [hsp]
  simp only [cm]
  refine Zc [2,3] [(2,4,0),(20,8,0),(22,15,0)] Tryz.func66 rfl (by kernel_rfl) ?_;rw [Tryz.ntmps66,Tryz.results66]
  refine eC ?_
  intro b2 hb2 b3 hb3
  have n32:b3≠b2:=Ne.symm hb3.1
  refine eJ ?_
  first | refine hpk.head ?_ | refine hpk.use ?_
  refine eJ ?_
  first | refine heq.head ?_ | refine heq.use ?_
  cases hd:decide (p=l.map Row.pick) with
  | false =>
    refine eJ ?_
    exact ZE (by simp only [Bool.false_and];exact .refl _) (((Sub.refl _).skip _).skip _)
  | true =>
    refine eJ ?_
    first | refine har.head ?_ | refine har.use ?_
    cases l.any fun r=>r.classes.any fun c=>!c.any<;>try simp only [go_sem,Int.reduceEq,Int.reduceLT,Int.reduceLE,↓reduceIte,Nat.reduceEqDiff,Nat.reduceAdd,Nat.reduceSub,Nat.reduceLT,Nat.reduceLeDiff,Nat.reduceMul,reduceCtorEq,Xu]<;>exact ZE (.refl _) (((Sub.refl _).skip _).skip _)
 ·obtain ⟨ai,rfl⟩:∃ ai:Nat,a=ai:=⟨a.toNat,by omega⟩
  have hy0:=hih y0 (by simp [ZH])
  have he0:=hih e0 (by simp [ZH])
  have hcs:∀ q∈cs,V2 n q.tree:=fun q hq=>hih _ (by simp only [ZH,List.mem_append,List.mem_map];exact .inr ⟨q,hq,rfl⟩)
  have hsp:YG (.mk 2 [] (ai:Nat) [y0] cs [e0]) l=((YN l ai).all (fun s=>decide (s∈cs.map Cs.name))&&YG y0 (ofS l (ai:Nat) XB)&&YG e0 (ofS l (ai:Nat) ⟨false,ZS⟩)&&WH (ai:Nat) l cs):=by
   simp only [YG,Rz,Int.toNat_natCast]
   rw [if_neg (by decide)]
  rw [hsp]
  have hnl:=P8 l ai
  have hna:=Sp l ai hlen (fun r hr=>by rw [hc r hr];omega) .none 3 (.inl rfl)
  simp only [cm]
  refine Zc [2,3] [(2,4,0),(20,8,0),(22,15,0)] Tryz.func66 rfl (by kernel_rfl) ?_;rw [Tryz.ntmps66,Tryz.results66]
  refine eC ?_
  intro b2 hb2 b3 hb3
  have n32:b3≠b2:=Ne.symm hb3.1
  refine eJ ?_
  intro r5 hr5
  have n53:r5≠b3:=Ne.symm hr5.1
  have n52:r5≠b2:=Ne.symm hr5.2.1
  try simp only [go_sem,Int.reduceEq,Int.reduceLT,Int.reduceLE,↓reduceIte,Nat.reduceEqDiff,Nat.reduceAdd,Nat.reduceSub,Nat.reduceLT,Nat.reduceLeDiff,Nat.reduceMul,reduceCtorEq,Xu,n32,n53,n52,cF]
  refine Zv (mu:=[2,3]) (dr:=[(2,4,0),(20,8,0),(22,15,0)]) [7,30,31,32,33,34,35,36,37] (fun i:Nat=>[(30,vi i)]) (fun i=>(r5,isO cs i)::(b3,rwO l)::(b2,trO 2 [] (ai:Nat) [y0] cs [e0])::σ) (fun i=>i≤cs.length) (fun i=>cs.length-i) 0 (by kernel_rfl) (by omega) ⟨.refl _,trivial⟩ (.refl _) ?_
  intro i hi
  try simp only [go_sem,Int.reduceEq,Int.reduceLT,Int.reduceLE,↓reduceIte,Nat.reduceEqDiff,Nat.reduceAdd,Nat.reduceSub,Nat.reduceLT,Nat.reduceLeDiff,Nat.reduceMul,reduceCtorEq,Xu,cF]
  refine ⟨fun h1=>⟨by omega,h1,fun d hd=>?_⟩,fun h1=>?_⟩
  ·rw [Int.toNat_natCast] at hd
   obtain ⟨q,hq,rfl⟩:=da hd
   have hst:(cs.take (i+1)).map Cs.name=(cs.take i).map Cs.name++[q.name]:=by
    rw [List.take_add_one,hq,Option.toList_some,List.map_append];rfl
   obtain ⟨s,k1,p1,a1,y1,c1,e1⟩:=q
   try simp only [go_sem,Int.reduceEq,Int.reduceLT,Int.reduceLE,↓reduceIte,Nat.reduceEqDiff,Nat.reduceAdd,Nat.reduceSub,Nat.reduceLT,Nat.reduceLeDiff,Nat.reduceMul,reduceCtorEq,Xu,di]
   intro b7 hb7
   have n75:b7≠r5:=Ne.symm hb7.1
   try simp only [go_sem,Int.reduceEq,Int.reduceLT,Int.reduceLE,↓reduceIte,Nat.reduceEqDiff,Nat.reduceAdd,Nat.reduceSub,Nat.reduceLT,Nat.reduceLeDiff,Nat.reduceMul,reduceCtorEq,Xu,n75]
   refine Rf (l:=Y1 (dd ((cs.take i).map Cs.name))) (c:=(dd ((cs.take i).map Cs.name)).length) (kt:=9) (et:=4) (by kernel_rfl) (by kernel_rfl) (by rw [Za n75,Zi];rfl) ?_
   obtain ⟨u1,u2⟩:=TW (dd ((cs.take i).map Cs.name)) s
   rw [u1,u2,Zk n75,Z6]
   refine eC ?_
   rw [show IntKind.i64.wrap ((i:Int)+1)=((i+1:Nat):Int) from Zp (by omega) (by omega)]
   have ho:isO cs (i+1)=.map (ZM keS (Y1 (VI (dd ((cs.take i).map Cs.name)) s))) (VI (dd ((cs.take i).map Cs.name)) s).length:=by
    unfold isO;rw [hst,T2];rfl
   refine .mk (i+1) (by omega) (by omega) ⟨.refl _,trivial⟩ (by repeat first | exact Zf.turn _ rfl | refine Zf.put rfl ?_) ?_
   rw [ho];exact (Sub.refl _).skip _
  ·have hil:isO cs i=.map (ZM keS (Y1 (dd (cs.map Cs.name)))) (dd (cs.map Cs.name)).length:=by unfold isO;rw [List.take_of_length_le (by omega)]
   rw [hil]
   try simp only [go_sem,Int.reduceEq,Int.reduceLT,Int.reduceLE,↓reduceIte,Nat.reduceEqDiff,Nat.reduceAdd,Nat.reduceSub,Nat.reduceLT,Nat.reduceLeDiff,Nat.reduceMul,reduceCtorEq,Xu,n32,n53,n52,rwO,trO,cm]
   intro b8 hb8
   have n85:b8≠r5:=Ne.symm hb8.1
   have n83:b8≠b3:=Ne.symm hb8.2.1
   have n82:b8≠b2:=Ne.symm hb8.2.2.1
   try simp only [go_sem,Int.reduceEq,Int.reduceLT,Int.reduceLE,↓reduceIte,Nat.reduceEqDiff,Nat.reduceAdd,Nat.reduceSub,Nat.reduceLT,Nat.reduceLeDiff,Nat.reduceMul,reduceCtorEq,Xu,n32,n53,n52,n85,n83,n82]
   refine hna.use ?_
   obtain ⟨N,hN⟩:∃ N,N=YN l ai:=⟨_,rfl⟩
   rw [← hN] at hnl ⊢
   obtain ⟨C,hC⟩:∃ C,C=cs.map Cs.name:=⟨_,rfl⟩
   rw [← hC]
   refine eV ?_
   refine Zv (mu:=[2,3]) (dr:=[(2,4,0),(20,8,0),(22,15,0)]) [4,10,44,45,46,47,48,49,50,51,52] (fun i:Nat=>[(44,vi i)]) (fun i=>(b8,.cells [.val (ofV b3 b2)])::(r5,.map (ZM keS (Y1 (dd C))) (dd C).length)::(b3,rwO l)::(b2,trO 2 [] (ai:Nat) [y0] cs [e0])::σ) (fun i=>i≤N.length∧∀ s∈N.take i,s∈C) (fun i=>N.length-i) 0 (by kernel_rfl) ⟨by omega,by simp⟩ ⟨.refl _,trivial⟩ (.refl _) ?_
   rintro j ⟨j1,j2⟩
   refine eV ?_
   refine ⟨fun h2=>⟨by omega,h2,fun d hd=>?_⟩,fun h2=>?_⟩
   ·rw [Int.toNat_natCast] at hd
    obtain ⟨s,hs,rfl⟩:=Yo hd
    refine eC ?_
    refine HJ (z:=.bool false) (l:=Y1 (dd C)) (c:=(dd C).length) (kt:=9) (et:=4) (by kernel_rfl) (by kernel_rfl) (by kernel_rfl) (by rw [Za n85,Zi]) ?_
    rw [Mk,aY]
    by_cases hin:s∈C
    ·rw [if_pos ((SE _ _).2 hin)]
     try simp only [go_sem,Int.reduceEq,Int.reduceLT,Int.reduceLE,↓reduceIte,Nat.reduceEqDiff,Nat.reduceAdd,Nat.reduceSub,Nat.reduceLT,Nat.reduceLeDiff,Nat.reduceMul,reduceCtorEq,Xu,Option.getD_some]
     rw [show IntKind.i64.wrap ((j:Int)+1)=((j+1:Nat):Int) from Zp (by omega) (by omega)]
     refine .mk (j+1) ⟨by omega,fun x hx=>?_⟩ (by omega) ⟨.refl _,trivial⟩ (by repeat first | exact Zf.turn _ rfl | refine Zf.put rfl ?_) (.refl _)
     rw [List.take_add_one,hs,Option.toList_some,List.mem_append] at hx
     rcases hx with hx | hx
     ·exact j2 x hx
     ·simp at hx;rw [hx];exact hin
    ·rw [if_neg (fun h=>hin ((SE _ _).1 h))]
     try simp only [go_sem,Int.reduceEq,Int.reduceLT,Int.reduceLE,↓reduceIte,Nat.reduceEqDiff,Nat.reduceAdd,Nat.reduceSub,Nat.reduceLT,Nat.reduceLeDiff,Nat.reduceMul,reduceCtorEq,Xu,Option.getD_none]
     have:N.all (fun s=>decide (s∈C))=false:=by
      rw [List.all_eq_false];exact ⟨s,List.mem_of_getElem? hs,by simpa using hin⟩
     rw [this]
     exact ZE (by simp only [Bool.false_and];exact .refl _) (((((Sub.refl _).skip _).skip _).skip _).skip _)
   ·have hall:N.all (fun s=>decide (s∈C))=true:=by
     rw [List.all_eq_true];intro s hs;rw [List.take_of_length_le (by omega)] at j2;simpa using j2 s hs
    rw [hall]
    try simp only [go_sem,Int.reduceEq,Int.reduceLT,Int.reduceLE,↓reduceIte,Nat.reduceEqDiff,Nat.reduceAdd,Nat.reduceSub,Nat.reduceLT,Nat.reduceLeDiff,Nat.reduceMul,reduceCtorEq,Xu,ofV]
    refine (aW 2 [] (ai:Nat) [y0] cs [e0] l ha0 hlen (fun r hr=>by rw [hc r hr];omega) b3 b2 _ (by rw [Za n83,Za n53,Zi]) (by rw [Za n82,Za n52,Za n32,Zi])).mono ?_
    obtain ⟨T,hT⟩:∃ T:Store,T=(b8,AObj.cells [.val (ofV b3 b2)])::(r5,.map (ZM keS (Y1 (dd C))) (dd C).length)::(b3,rwO l)::(b2,trO 2 [] (ai:Nat) [y0] cs [e0])::σ:=⟨_,rfl⟩
    have t8:T.get b8=some (.cells [.val (ofV b3 b2)]):=by rw [hT,Zi]
    have t3:T.get b3=some (rwO l):=by rw [hT,Za n83,Za n53,Zi]
    have t2:T.get b2=some (trO 2 [] (ai:Nat) [y0] cs [e0]):=by rw [hT,Za n82,Za n52,Za n32,Zi]
    have hsT:Has σ T:=by rw [hT];exact ((((Has.refl σ).cons _).cons _).cons _).cons _
    have hTe:((b8,AObj.cells [AV.val (Value.func (Fn.func 112) #[] #[Value.pointer (some { block:=b3,off:=0 }),Value.pointer (some { block:=b2,off:=0 })])])::(r5,.map (ZM keS (Y1 (dd C))) (dd C).length)::(b3,rwO l)::(b2,trO 2 [] (ai:Nat) [y0] cs [e0])::σ:Store)=T:=hT.symm
    rw [hTe]
    rintro r S ⟨v,xs,rfl,hLV,hrow,hRB,hnd2,hHas,hKI⟩
    have hxl:xs.length=l.length:=by rw [← hrow,List.length_map]
    have hLV':=hLV
    obtain ⟨rt,sz,rfl,hz,_⟩:=hLV'
    have hm0:Sq (ai:Nat) xs 0=xs.map rbE:=by simp [Sq]
    refine eV ?_
    refine Zv (mu:=[2,3]) (dr:=[(2,4,0),(20,8,0),(22,15,0)]) (11::[12,58,59,60,61,62,63,64,65,66,67,68,69,70]) (fun x:Nat×AV×Store=>[(58,vi x.1),(11,x.2.1)]) (fun x=>x.2.2) (fun x=>x.1≤xs.length∧LV T x.2.2 x.2.1 3 (Sq (ai:Nat) xs x.1)∧(∀ y∈xs.drop x.1,Lk T x.2.2 y)∧Has T x.2.2∧Yw T T x.2.2) (fun x=>xs.length-x.1) (0,_,S) (by kernel_rfl) ⟨by simp,by simp only [hm0];exact hLV,by simpa using hRB,hHas,hKI⟩ ⟨.refl _,.refl _,trivial⟩ (.refl _) ?_
    rintro ⟨i,v,S⟩ ⟨i1,i2,i3,i4,i5⟩
    simp only at i1 i2 i3 i4 i5
    have s8:=i5 b8 _ (by rw [t8];rfl) t8
    have s3:=i5 b3 _ (by rw [t3];rfl) t3
    have s2:=i5 b2 _ (by rw [t2];rfl) t2
    refine eC ?_
    refine ⟨fun h3=>?_,fun h3=>?_⟩
    ·obtain ⟨x,hx⟩:∃ x,xs[i]?=some x:=⟨_,List.getElem?_eq_getElem (by omega)⟩
     have hmg:=Cd (a:=(ai:Nat)) hx
     have hdr:xs.drop i=x::xs.drop (i+1):=List.drop_eq_getElem_cons (List.getElem?_eq_some_iff.1 hx).1 |>.trans (by rw [(List.getElem?_eq_some_iff.1 hx).2])
     have hrb:=i3 x (by rw [hdr];exact List.mem_cons_self)
     have hxm:=List.mem_of_getElem? hx
     have hxc:x.row.classes.length=n:=hc _ (by rw [← hrow];exact List.mem_map_of_mem hxm)
     have i2':=i2
     obtain ⟨rt2,sz2,rfl,hz2,_⟩:=i2'
     have hne:Sq (ai:Nat) xs i≠[]:=fun h=>by rw [h] at hmg;simp at hmg
     have hs2:sz2=3:=hz2.resolve_right hne
     subst hs2
     have hml:=Cc (ai:Nat) xs i
     try simp only [go_sem,Int.reduceEq,Int.reduceLT,Int.reduceLE,↓reduceIte,Nat.reduceEqDiff,Nat.reduceAdd,Nat.reduceSub,Nat.reduceLT,Nat.reduceLeDiff,Nat.reduceMul,reduceCtorEq,Xu,hml]
     refine ⟨by omega,by omega,fun d hd=>?_⟩
     rw [Int.toNat_natCast,hmg] at hd
     injection hd with hd
     subst hd
     have s2':=s2
     simp only [trO,cm] at s2'
     try simp only [go_sem,Int.reduceEq,Int.reduceLT,Int.reduceLE,↓reduceIte,Nat.reduceEqDiff,Nat.reduceAdd,Nat.reduceSub,Nat.reduceLT,Nat.reduceLeDiff,Nat.reduceMul,reduceCtorEq,Xu,rbE,s2']
     refine ⟨by omega,by omega,?_⟩
     rw [Int.toNat_natCast,hrb.1]
     have hsp:=QV x.row.classes x.rest ai XB (by omega)
     simp only [go_sem,Int.reduceEq,Int.reduceLT,Int.reduceLE,↓reduceIte,Nat.reduceEqDiff,Nat.reduceAdd,Nat.reduceSub,Nat.reduceLT,Nat.reduceLeDiff,Nat.reduceMul,reduceCtorEq,XB,Cls.emb] at hsp
     refine eC ?_
     rw [hsp]
     have hfl:=Px (dh x.row.classes)
     rw [cS] at hfl
     refine ⟨by rw [List.length_append,hfl];omega,?_⟩
     rw [show IntKind.i64.wrap ((i:Int)+1)=((i+1:Nat):Int) from Zp (by omega) (by omega)]
     have hlv1:=i2.set hrb.1 (by intro _ _ h;cases h) (.cells ((cA (x.row.classes.set ai { any:=true,name:=ZS })).flatten++x.rest))
     have hrb1:Lk T (S.set x.blk (.cells ((cA (x.row.classes.set ai { any:=true,name:=ZS })).flatten++x.rest))) ⟨YM (ai:Nat) x.row,x.blk,x.cap,x.rest⟩:=⟨by rw [Zd hrb.1];rfl,hrb.2.1,by simpa [YM] using hrb.2.2.1,by simpa [YM] using hrb.2.2.2⟩
     have hrbe:rbE ⟨YM (ai:Nat) x.row,x.blk,x.cap,x.rest⟩=rbE x:=by simp [rbE,YM]
     obtain ⟨v2,hs2,hv2⟩:=hlv1.freezeAt (i:=i) (e:=rbE ⟨YM (ai:Nat) x.row,x.blk,x.cap,x.rest⟩) (e':=(YM (ai:Nat) x.row).emb) (by rw [hrbe];exact hmg) hrb1.1 rfl (N8 hrb1)
     rw [Cb hx] at hv2
     have hnd3:((xs.drop i).map RB.blk).Nodup:=List.Nodup.sublist ((List.drop_sublist i xs).map _) hnd2
     rw [hdr,List.map_cons,List.nodup_cons] at hnd3
     refine .mkS (i+1,v2,_) _ _ (WC.put (k:=11) rfl hs2 (Ku _ x.blk)) ⟨by simp only;omega,hv2,fun z hz=>?_,(i4.set hrb.2.1 _).del hrb.2.1,(i5.trans (.set hrb.2.1 _)).trans (.del hrb.2.1)⟩ (by simp only;omega) ⟨.refl _,.refl _,trivial⟩ (by repeat first | exact Zf.turn _ rfl | refine Zf.put rfl ?_) (.refl _)
     obtain ⟨q1,q2,q3,q4⟩:=i3 z (by rw [hdr];exact List.mem_cons_of_mem _ hz)
     have hzx:z.blk≠x.blk:=fun e=>hnd3.1 (by rw [← e];exact List.mem_map_of_mem hz)
     exact ⟨by rw [Y6 hzx,Zb hzx];exact q1,q2,q3,q4⟩
    ·have hix:i=xs.length:=by omega
     rw [hix,Ce hrow] at i2
     have hend:Sub σ S:=Has.sub (fun p hp=>i4 p (hsT p hp)) hnd
     have s2':=s2
     simp only [trO,cm] at s2'
     have hry:=hy0 (ofS l (ai:Nat) XB) (Nat.le_trans (RA _ _ _) hlen) (OZ hc _ _)
     have hre:=he0 (ofS l (ai:Nat) ⟨false,ZS⟩) (Nat.le_trans (RA _ _ _) hlen) (OZ hc _ _)
     have hof:=fun (S':Store) (hs:XS S S')=>BI 2 [] (ai:Nat) [y0] cs [e0] l ⟨false,ZS⟩ rfl ha0 hlen (fun r hr=>by rw [hc r hr];omega) b3 b2 S' (hs _ _ s3) (hs _ _ s2)
     have hca:=LP n 2 [] (ai:Nat) [y0] cs [e0] l hcs ha0 han hlen hc b8 b3 b2 S s8 s3 s2
     obtain ⟨ky,py,ay,yy,cy,ey⟩:=y0
     obtain ⟨ke,pe,ae,ye,ce,ee⟩:=e0
     simp only [cm,cD,Cls.emb] at s2' hry hre hof
     simp only [ofV] at s8
     obtain ⟨RY,hRY⟩:∃ b,b=YG (.mk ky py ay yy cy ey) (ofS l (ai:Nat) XB):=⟨_,rfl⟩
     obtain ⟨RE,hRE⟩:∃ b,b=YG (.mk ke pe ae ye ce ee) (ofS l (ai:Nat) ⟨false,ZS⟩):=⟨_,rfl⟩
     rw [← hRY] at hry ⊢
     rw [← hRE] at hre ⊢
     refine fT ?_
     refine ⟨by decide,fun d hd=>?_⟩
     have hd2:=Option.some.inj hd
     rw [← hd2]
     refine eB ?_
     refine Pf.mk (v:=vb RY) (fun S' hs=>by rw [Y5];exact Zj.wk (hry S') ⟨.refl _,i2.wk,trivial⟩) ?_
     cases RY with
     | false =>
       refine eB ?_
       exact ZE (by simp only [Bool.false_and,Bool.and_false];exact .refl _) hend
     | true =>
       refine fT ?_
       refine ⟨by decide,fun d hd=>?_⟩
       have hd2:=Option.some.inj hd
       rw [← hd2]
       refine eB ?_
       refine Pf.mk (v:=.list .none 3 (cC (ofS l (ai:Nat) ⟨false,ZS⟩))) (fun S' hs=>by rw [Y5];exact hof S' hs) ?_
       refine eB ?_
       refine hre.use ?_
       cases RE with
       | false =>
         refine eB ?_
         exact ZE (by simp only [Bool.false_and,Bool.and_false];exact .refl _) hend
       | true =>
         refine eB ?_
         refine hca.only ?_
         cases WH (ai:Nat) l cs<;>try simp only [go_sem,Int.reduceEq,Int.reduceLT,Int.reduceLE,↓reduceIte,Nat.reduceEqDiff,Nat.reduceAdd,Nat.reduceSub,Nat.reduceLT,Nat.reduceLeDiff,Nat.reduceMul,reduceCtorEq,Xu]<;>exact ZE (.refl _) hend
theorem W9 (f:Flat)(pred:Str)(t:Tr)(hB:trN t≤bigN)(hh:(YI f pred).length≤137438953472):Pur Tryz.prog 18 [.agg f.emb,vs pred,.agg t.emb] (vi (UF f pred t)):=by
 intro σ
 have h:=OR f pred hh
 have hf:=WU f pred
 have hlen:=R9 f pred
 unfold UF
 obtain ⟨⟨rs,n,e⟩,hr⟩:∃ q,q=Z1 f pred:=⟨_,rfl⟩
 rw [← hr] at h hf hlen ⊢
 simp only at h hf hlen ⊢
 have hif:=Qv (n:Nat) (by omega) t hB
 have hrt:=fun (h:Xe t (n:Nat)=true) (h8:n≤1000)=>DO n h8 t hB (JP (n:Nat) t ([],0) (by unfold Xe at h;simp only [Bool.and_eq_true] at h;exact h.2))
 obtain ⟨I,hI⟩:∃ b,b=Xe t (n:Nat):=⟨_,rfl⟩
 rw [← hI] at hif hrt ⊢
 unfold V2 at hrt
 have hrt2:=fun a b=>hrt a b rs
 clear hrt
 obtain ⟨R,hR⟩:∃ b,b=YG t rs:=⟨_,rfl⟩
 rw [← hR] at hrt2 ⊢
 obtain ⟨k,p,a,y,c,e'⟩:=t
 simp only [Flat.emb,cm] at h hif hrt2 ⊢
 refine Zc [] [] Tryz.func18 rfl (by kernel_rfl) ?_;rw [Tryz.ntmps18,Tryz.results18]
 refine eE ?_
 refine h.use ?_
 refine eE ?_
 refine ⟨fun h1=>?_,fun h1=>?_⟩
 ·rw [if_pos (by simpa using h1)]
  refine eE ?_
  exact Zu
 ·have h1':e=0:=by simpa using h1
  subst h1'
  rw [if_neg (by simp)]
  obtain ⟨_,f1,f2,f3,f4⟩:=hf rfl
  refine eE ?_
  refine hif.use ?_
  cases I with
  | false =>
    refine eE ?_
    exact X8 (by simp)
  | true =>
    refine eE ?_
    refine (hrt2 rfl (by omega) (by omega) f1).use ?_
    cases R<;>try simp only [go_sem,Int.reduceEq,Int.reduceLT,Int.reduceLE,↓reduceIte,Nat.reduceEqDiff,Nat.reduceAdd,Nat.reduceSub,Nat.reduceLT,Nat.reduceLeDiff,Nat.reduceMul,reduceCtorEq,LB]<;>exact X8 (by simp)
end Go.Vx
end
section
set_option maxRecDepth 100000
namespace Go.Vx
open Go.Proofs
theorem Uc:(Zl Tryz.prog 30=some (.agg #[(.int .i64 0),(.slice none 0 0),(.int .i64 0),(.slice none 0 0),(.slice none 0 0),(.slice none 0 0)]))∧(Zl Tryz.prog 40=some (.int .i64 0))∧(Zh Tryz.prog 25=some 2)∧(Ze Tryz.prog 25=some true)∧(Zl Tryz.prog 3=some (.int .i64 0))∧(Zh Tryz.prog 3=some 1)∧(Zh Tryz.prog 40=some 1)∧(Ze Tryz.prog 40=some false)∧(Yx Tryz.prog 30=some [(0,1),(1,1),(2,1),(3,1),(4,1),(5,1)])∧(Zh Tryz.prog 30=some 6)∧(Zl Tryz.prog 102=some .nilFunc)∧(Zh Tryz.prog 102=some 1)∧(Ze Tryz.prog 102=some false)∧(Ze Tryz.prog 30=some true):=by
 refine ⟨?_,?_,?_,?_,?_,?_,?_,?_,?_,?_,?_,?_,?_,?_⟩<;>first | trivial | kernel_rfl
theorem XD:(Zl Tryz.prog 30=some (.agg #[(.int .i64 0),(.slice none 0 0),(.int .i64 0),(.slice none 0 0),(.slice none 0 0),(.slice none 0 0)]))∧(Zh Tryz.prog 3=some 1)∧(Ze Tryz.prog 3=some false)∧(Zl Tryz.prog 104=some (.agg #[]))∧(Yx Tryz.prog 104=some [])∧((Tryz.prog.underlying 104).isSome=true)∧(ZJ (Tryz.prog.underlying 104)=false)∧(Zl Tryz.prog 3=some (.int .i64 0))∧(Zh Tryz.prog 99=some 1)∧(Ze Tryz.prog 99=some false)∧(Zl Tryz.prog 107=some (.agg #[(.bool false),(.string ⟨#[]⟩)]))∧(Yx Tryz.prog 107=some [(0,1),(1,1)])∧(Yx Tryz.prog 30=some [(0,1),(1,1),(2,1),(3,1),(4,1),(5,1)])∧(Zh Tryz.prog 30=some 6)∧(ZA Tryz.prog 64=some 9)∧(Zh Tryz.prog 9=some 1)∧(Ze Tryz.prog 9=some false)∧(Zz Tryz.prog 30 4=some 4)∧(Zh Tryz.prog 28=some 1)∧(Ze Tryz.prog 28=some false)∧(ZA Tryz.prog 27=some 30)∧(Ze Tryz.prog 30=some true)∧(Zl Tryz.prog 114=some (.agg #[(.string ⟨#[]⟩),(.int .i64 0),(.slice none 0 0),(.int .i64 0),(.slice none 0 0),(.slice none 0 0),(.slice none 0 0)]))∧(Yx Tryz.prog 114=some [(0,1),(1,6)])∧(ZA Tryz.prog 28=some 114)∧(Zh Tryz.prog 114=some 7)∧(Zz Tryz.prog 30 5=some 5)∧(Zh Tryz.prog 27=some 1)∧(Tryz.prog.underlying 64=some (.slice 9))∧(ZQ Tryz.prog 114=some 128):=by
 refine ⟨?_,?_,?_,?_,?_,?_,?_,?_,?_,?_,?_,?_,?_,?_,?_,?_,?_,?_,?_,?_,?_,?_,?_,?_,?_,?_,?_,?_,?_,?_⟩<;>first | trivial | kernel_rfl
theorem RN:(Zh Tryz.prog 99=some 1)∧(Ze Tryz.prog 99=some false)∧(ZA Tryz.prog 99=some 110)∧(Zh Tryz.prog 110=some 3)∧(Ze Tryz.prog 110=some true)∧(Zl Tryz.prog 110=some (.agg #[(.int .i64 0),(.int .i64 0),(.slice none 0 0)]))∧(Zz Tryz.prog 110 1=some 2)∧(Zh Tryz.prog 108=some 1)∧(Ze Tryz.prog 108=some false)∧(Zh Tryz.prog 3=some 1)∧(Ze Tryz.prog 3=some false)∧(ZA Tryz.prog 108=some 107)∧(Zh Tryz.prog 107=some 2)∧(Ze Tryz.prog 107=some true)∧(Zh Tryz.prog 102=some 1)∧(Ze Tryz.prog 102=some false)∧(ZA Tryz.prog 27=some 30)∧(Zh Tryz.prog 30=some 6)∧(Zl Tryz.prog 30=some (.agg #[(.int .i64 0),(.slice none 0 0),(.int .i64 0),(.slice none 0 0),(.slice none 0 0),(.slice none 0 0)]))∧(Tryz.prog.underlying 99=some (.slice 110))∧(ZQ Tryz.prog 110=some 40):=by
 refine ⟨?_,?_,?_,?_,?_,?_,?_,?_,?_,?_,?_,?_,?_,?_,?_,?_,?_,?_,?_,?_,?_⟩<;>first | trivial | kernel_rfl
theorem BT:(ZJ (Tryz.prog.underlying 20)=true)∧((Tryz.prog.underlying 104).isSome=true)∧(ZJ (Tryz.prog.underlying 104)=false)∧(Zl Tryz.prog 104=some (.agg #[]))∧(Zh Tryz.prog 104=some 0)∧(Zl Tryz.prog 30=some (.agg #[(.int .i64 0),(.slice none 0 0),(.int .i64 0),(.slice none 0 0),(.slice none 0 0),(.slice none 0 0)]))∧(Yx Tryz.prog 30=some [(0,1),(1,1),(2,1),(3,1),(4,1),(5,1)])∧(Zh Tryz.prog 30=some 6)∧(Zh Tryz.prog 40=some 1):=by
 refine ⟨?_,?_,?_,?_,?_,?_,?_,?_,?_⟩<;>first | trivial | kernel_rfl
def tlV:Value:=.iface 104 (.agg #[])
theorem ET (b0 b1:Nat)(σ:Store)(K:Store→Prop)(hK:K σ):Vr Tryz.prog 57 [.pointer (some ⟨b0,0,none⟩),.pointer (some ⟨b1,0,none⟩)] .returning .returning σ K:=by
 refine UX [] [] .none Tryz.func57 rfl 5 rfl (by kernel_rfl) ?_
 rw [Tryz.ntmps57]
 try simp only [go_sem,seval,BT]
 exact ⟨_,.refl _,hK⟩
theorem ES (b0 b1:Nat)(z0 z1 z2 z3 z4 z5 x1:AV)(σ:Store)(K:Store→Prop)(n01:b0≠b1)(g0:σ.get b0=some (.cells [z0,z1,z2,z3,z4,z5]))(g1:σ.get b1=some (.cells [x1]))
 (hK:K ((σ.set b0 (.cells [vi 0,.list .full 0 [],vi 0,.list .full 0 [],.list .full 0 [],.list .full 0 []])).set b1 (.cells [vi 2]))) :
 Vr Tryz.prog 57 [.pointer (some ⟨b0,0,none⟩),.pointer (some ⟨b1,0,none⟩)] (.panicking [{ v:=tlV,recovered:=false }]) (.panicking [{ v:=tlV,recovered:=true }]) σ K:=by
 refine UX [] [] (.some _) Tryz.func57 rfl 5 rfl (by kernel_rfl) ?_
 rw [Tryz.ntmps57]
 try simp only [go_sem,seval,BT,tlV]
 intro b3 hb3
 have n30:b3≠b0:=Zt hb3 g0
 have n31:b3≠b1:=Zt hb3 g1
 have n10:b1≠b0:=Ne.symm n01
 have g1':∀ x,(σ.set b0 x).get b1=some (.cells [x1]):=fun x=>by rw [Zb n10];exact g1
 try simp only [go_sem,seval,BT,n30,n31,n01,n10,g0,g1,g1']
 exact ⟨_,.cons _ _,hK⟩
def Nu (bl bn bb:Nat):Value:=.func (.func 52) #[] #[.pointer (some ⟨bl,0,none⟩),.pointer (some ⟨bn,0,none⟩),.pointer (some ⟨bb,0,none⟩)]
def CM (b5 b8 bb:Nat):Value:=.func (.func 54) #[] #[.pointer (some ⟨b5,0,none⟩),.pointer (some ⟨b8,0,none⟩),.pointer (some ⟨bb,0,none⟩)]
def lfO (x:Int):AObj:=.cells [vi x]
def ar (o:Option (Tr×Int))(f:Tr→AV)(bl:Nat)(σ:Store):ZO→Store→Prop:=fun r S=>match o with
 | some (t,y)=>r=.ret (f t)∧S=σ.set bl (lfO y)
 | none=>r=.pan tlV∧∃ y,S=σ.set bl (lfO y)
structure BSt (n:Nat) (bl bn bb:Nat) (left:Int) (σ:Store):Prop where
 gl:σ.get bl=some (lfO left)
 gn:σ.get bn=some (lfO n)
 gb:σ.get bb=some (.cells [.val (Nu bl bn bb)])
def BIH (n bl bn bb k:Nat):Prop:=∀ (l:List Row) (left:Int) (σ:Store),l.length≤137438953472→(∀ r∈l,r.classes.length=n)→0≤left→left≤4000→BSt n bl bn bb left σ →
 Zj Tryz.prog 52 [.list .none 3 (cC l),vi ((n-k:Nat):Int),.val (.pointer (some ⟨bl,0,none⟩)),.val (.pointer (some ⟨bn,0,none⟩)),.val (.pointer (some ⟨bb,0,none⟩))] σ (ar (Tu n k l left) (fun t=>.agg t.emb) bl σ)
theorem L4 {σ:Store}{b:Nat}{x:AObj}{p:Nat×AObj}(hn:(σ.map (·.1)).Nodup)(h:p∈σ.set b x):p=(b,x)∨(p∈σ∧p.1≠b):=by
 induction σ with
 | nil=>cases h
 | cons q r ih =>
   obtain ⟨c,y⟩:=q
   simp only [List.map_cons,List.nodup_cons] at hn
   simp only [Store.set] at h
   split at h
   ·rename_i e
    subst e
    rcases List.mem_cons.1 h with h | h
    ·exact .inl h
    ·exact .inr ⟨List.mem_cons_of_mem _ h,fun e=>hn.1 (e ▸ List.mem_map_of_mem (f:=(·.1)) h)⟩
   ·rename_i e
    rcases List.mem_cons.1 h with h | h
    ·exact .inr ⟨h ▸ List.mem_cons_self,by rw [h];exact e⟩
    ·rcases ih hn.2 h with h | ⟨h1,h2⟩
     ·exact .inl h
     ·exact .inr ⟨List.mem_cons_of_mem _ h1,h2⟩
theorem WK {b:Nat}{x:AObj}:∀ {σ:Store},(σ.set b x).map (·.1)=σ.map (·.1)
 | []=>rfl
 | (c,y)::r=>by
   simp only [Store.set]
   split
   ·rfl
   ·simp only [List.map_cons,WK]
theorem Has.setb {σ S:Store}{b:Nat}{x:AObj}(h:Has σ S)(hn:(σ.map (·.1)).Nodup)(hb:(S.get b).isSome=true):Has (σ.set b x) (S.set b x):=by
 intro p hp
 rcases L4 hn hp with rfl | ⟨h1,h2⟩
 ·obtain ⟨z,hz⟩:=Option.isSome_iff_exists.1 hb
  exact ZW (Zd hz)
 ·exact X0 p (h p h1) h2
theorem Has.subset {σ S:Store}{b:Nat}{x:AObj}(h:Has σ S)(hn:(σ.map (·.1)).Nodup)(hb:(S.get b).isSome=true):Sub (σ.set b x) (S.set b x) :=
 (h.setb hn hb).sub (by rw [WK];exact hn)
theorem BSt.mono {n bl bn bb:Nat}{left:Int}{σ S:Store}(h:BSt n bl bn bb left σ)(k:Yw σ σ S):BSt n bl bn bb left S :=
 ⟨k _ _ (by rw [h.gl];rfl) h.gl,k _ _ (by rw [h.gn];rfl) h.gn,k _ _ (by rw [h.gb];rfl) h.gb⟩
theorem MJ {l:List Row}{i:Nat}{r:Row}(h:l[i]?=some r)(q:Row→Bool):(l.take (i+1)).filter q=(l.take i).filter q++(if q r=true then [r] else []):=by
 rw [List.take_add_one,h,Option.toList_some,List.filter_append]
 congr 1
 by_cases hf:q r=true<;>simp [hf]
theorem JW (n bl bn bb k:Nat)(hk:k<n)(hn8:n≤1000)(ih:BIH n bl bn bb k)(l:List Row)(cl:Cls)(left:Int)(hlen:l.length≤137438953472)(hc:∀ r∈l,r.classes.length=n)(hl0:0≤left)(hl4:left≤4000)(b5 b8:Nat)(σ:Store)
 (hS:BSt n bl bn bb left σ) (g5:σ.get b5=some (rwO l)) (g8:σ.get b8=some (lfO ((n-(k+1):Nat):Int))) :
 Zj Tryz.prog 54 [.agg cl.emb,.val (.pointer (some ⟨b5,0,none⟩)),.val (.pointer (some ⟨b8,0,none⟩)),.val (.pointer (some ⟨bb,0,none⟩))] σ
  (ar (Tu n k (l.filter fun x=>YD (YT x ((n-(k+1):Nat):Int)) cl) left) (fun t=>.list .none 6 (cD [t])) bl σ):=by
 refine Zj.nodup (by kernel_rfl) (fun hnd=>?_)
 obtain ⟨ca,cn⟩:=cl
 obtain ⟨ai,hai⟩:∃ ai,ai=n-(k+1):=⟨_,rfl⟩
 rw [← hai] at g8 ⊢
 have hb':=hS.gb
 simp only [rwO,lfO,Nu] at g5 g8 hb'
 simp only [Cls.emb]
 refine Zc [] [(5,6,0)] Tryz.func54 rfl (by kernel_rfl) ?_;rw [Tryz.ntmps54,Tryz.results54]
 try simp only [go_sem,seval,RN,g5,cE]
 refine Zv (mu:=[]) (dr:=[(5,6,0)]) [6,8,11,12,13,14,15,16,17,18,19,20,21,22,23,24,25,26] (fun x:Nat×AV×Store=>[(11,vi x.1),(6,x.2.1)]) (fun x=>x.2.2) (fun x=>x.1≤l.length∧LV σ x.2.2 x.2.1 3 (cC ((l.take x.1).filter fun x=>YD (YT x (ai:Nat)) ⟨ca,cn⟩))∧Has σ x.2.2∧Yw σ σ x.2.2) (fun x=>l.length-x.1) (0,.list .full 0 [],σ) (by kernel_rfl) ⟨by omega,by simpa [cC] using LV.nil σ σ 3,.refl _,.refl _ _⟩ ⟨.refl _,.refl _,trivial⟩ (.refl _) ?_
 rintro ⟨i,v,S⟩ ⟨i1,i2,i3,i4⟩
 simp only at i1 i2 i3 i4
 have s8:=i4 b8 _ (by rw [g8];rfl) g8
 have sb:=i4 bb _ (by rw [hb'];rfl) hb'
 try simp only [go_sem,seval,RN,cE]
 refine ⟨fun h1=>⟨by omega,h1,fun d hd=>?_⟩,fun h1=>?_⟩
 ·rw [Int.toNat_natCast] at hd
  obtain ⟨r,hr,rfl⟩:=df hd
  have hst:=MJ hr (fun x=>YD (YT x (ai:Nat)) ⟨ca,cn⟩)
  have hra:=hc r (List.mem_of_getElem? hr)
  obtain ⟨c0,hc0⟩:∃ c0,r.classes[ai]?=some c0:=⟨_,List.getElem?_eq_getElem (by omega)⟩
  have hco:YT r (ai:Nat)=c0:=by simp [YT,List.getD_eq_getElem?_getD,hc0]
  rw [hco] at hst
  have hof:=List.length_filter_le (fun x=>YD (YT x (ai:Nat)) ⟨ca,cn⟩) (l.take i)
  rw [List.length_take] at hof
  try simp only [go_sem,seval,RN,Row.emb]
  intro b7 hb7
  have n78:b7≠b8:=Zt hb7 s8
  try simp only [go_sem,seval,RN,n78,s8,cS]
  refine ⟨by omega,by omega,fun d hd=>?_⟩
  rw [Int.toNat_natCast] at hd
  obtain ⟨c1,hc1,rfl⟩:=du hd
  rw [hc0] at hc1;injection hc1 with hc1;subst hc1
  have hfit:=Ks c0 ⟨ca,cn⟩
  simp only [Cls.emb] at hfit
  try simp only [go_sem,seval,RN,Cls.emb]
  refine hfit.use ?_
  cases hf:YD c0 ⟨ca,cn⟩ with
  | false =>
    rw [hf,if_neg (by decide),List.append_nil] at hst
    try simp only [go_sem,seval,RN]
    rw [show IntKind.i64.wrap ((i:Int)+1)=((i+1:Nat):Int) from Zp (by omega) (by omega)]
    exact .mk (i+1,v,S) ⟨by simp only;omega,by simp only [hst];exact i2,i3,i4⟩ (by simp only;omega) ⟨.refl _,.refl _,trivial⟩ (by repeat first | exact Zf.turn _ rfl | refine Zf.put rfl ?_) ((Sub.refl _).skip _)
  | true =>
    rw [hf,if_pos rfl] at hst
    try simp only [go_sem,seval,RN]
    refine ⟨rfl,(i2.cons hb7 _).append2 rfl (by decide) (by rw [cE];simp only [List.length_singleton];omega) rfl (by simp) (i3.cons _) (fun v' S' hv' hkin hk hH=>?_)⟩
    try simp only [go_sem,seval,RN,hv'.one,hv'.cells]
    rw [show IntKind.i64.wrap ((i:Int)+1)=((i+1:Nat):Int) from Zp (by omega) (by omega)]
    exact .mk (i+1,v',S') ⟨by simp only;omega,by simp only [hst];simpa [cC,Row.emb] using hv',hH,(i4.trans (.cons hb7 _)).trans hkin⟩ (by simp only;omega) ⟨.refl _,.refl _,trivial⟩ (by repeat first | exact Zf.turn _ rfl | refine Zf.put rfl ?_) (.refl _)
 ·have hil:l.take i=l:=List.take_of_length_le (by omega)
  rw [hil] at i2
  try simp only [go_sem,seval,RN,sb,s8,i2.one,i2.cells]
  rw [show IntKind.i64.wrap ((ai:Int)+1)=((n-k:Nat):Int) from by rw [Zp (by omega) (by omega)];omega]
  have hfl:∀ r∈l.filter (fun x=>YD (YT x (ai:Nat)) ⟨ca,cn⟩),r.classes.length=n:=fun r hr=>hc r (List.mem_filter.1 hr).1
  have hsl:(S.get bl).isSome=true:=by rw [(hS.mono i4).gl];rfl
  refine (Zj.wk (ih (l.filter fun x=>YD (YT x (ai:Nat)) ⟨ca,cn⟩) left S (Nat.le_trans (List.length_filter_le _ _) hlen) hfl hl0 hl4 (hS.mono i4)) (show Wks [v,vi ((n-k:Nat):Int),.val (.pointer (some ⟨bl,0,none⟩)),.val (.pointer (some ⟨bn,0,none⟩)),.val (.pointer (some ⟨bb,0,none⟩))] _ from ⟨i2.wk,.refl _,.refl _,.refl _,.refl _,trivial⟩)).mono ?_
  intro r S' hr
  unfold ar at hr ⊢
  cases hb:Tu n k (l.filter fun x=>YD (YT x (ai:Nat)) ⟨ca,cn⟩) left with
  | none =>
    rw [hb] at hr
    obtain ⟨rfl,y,rfl⟩:=hr
    try simp only [go_sem,seval,RN]
    exact .mk (i3.subset hnd hsl) ⟨rfl,y,rfl⟩
  | some q =>
    obtain ⟨⟨kq,pq,aq,yq,cq,eq⟩,yy⟩:=q
    rw [hb] at hr
    obtain ⟨rfl,rfl⟩:=hr
    simp only [cm,cD]
    try simp only [go_sem,seval,RN]
    first
     | exact .mk (.list _ _ _) (i3.subset hnd hsl) ⟨rfl,rfl⟩
     | exact ⟨rfl,.mk (.list _ _ _) (i3.subset hnd hsl) ⟨rfl,rfl⟩⟩
end Go.Vx
end
