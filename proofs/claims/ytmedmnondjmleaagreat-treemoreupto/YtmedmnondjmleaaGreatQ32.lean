/- Part Q32 of the proof of treeMoreProved: the walk of the program on abstract values, and the plain law. -/
import Derived.Test.YtmedmnondjmleaaGreatQ31
set_option linter.unusedVariables false
set_option linter.unusedSimpArgs false
section
set_option maxRecDepth 100000
namespace Go.Vx
open Go.Proofs
theorem SZ:(ZB Tryz.prog 26=some 32)∧(Zh Tryz.prog 32=some 2)∧(Ze Tryz.prog 32=some true)∧(Tryz.prog.underlying 26=some (.slice 32)):=by
 refine ⟨?_,?_,?_,?_⟩<;>first | trivial | kernel_rfl
theorem SY:(ZB Tryz.prog 28=some 114)∧(Zh Tryz.prog 114=some 7)∧(Ze Tryz.prog 114=some true)∧(Tryz.prog.underlying 28=some (.slice 114)):=by
 refine ⟨?_,?_,?_,?_⟩<;>first | trivial | kernel_rfl
theorem Bm:(ZE Tryz.prog 114 0=some 0)∧(Zh Tryz.prog 9=some 1)∧(Ze Tryz.prog 9=some false):=by
 refine ⟨?_,?_,?_⟩<;>first | trivial | kernel_rfl
theorem Bl:(Zh Tryz.prog 30=some 6)∧(Ze Tryz.prog 30=some true)∧(Zh Tryz.prog 3=some 1)∧(Ze Tryz.prog 3=some false)∧(Zh Tryz.prog 141=some 1)∧(Ze Tryz.prog 141=some false):=by
 refine ⟨?_,?_,?_,?_,?_,?_⟩<;>first | trivial | kernel_rfl
theorem YH:(ZE Tryz.prog 30 0=some 0)∧(Zh Tryz.prog 3=some 1)∧(Ze Tryz.prog 3=some false)∧(ZE Tryz.prog 30 2=some 2)∧(Zh Tryz.prog 30=some 6)∧(Ze Tryz.prog 30=some true)∧(ZE Tryz.prog 30 1=some 1)∧(Zh Tryz.prog 26=some 1)∧(Ze Tryz.prog 26=some false)∧(Zh Tryz.prog 141=some 1)∧(Ze Tryz.prog 141=some false)∧(Tryz.prog.underlying 141=some (.map 3 4))∧(Tryz.prog.underlying 3=some (.int .i64))∧(Zl Tryz.prog 4=some (.bool false))∧(ZE Tryz.prog 30 3=some 3)∧(Zh Tryz.prog 27=some 1)∧(Ze Tryz.prog 27=some false)∧(ZE Tryz.prog 30 5=some 5)∧(ZE Tryz.prog 30 4=some 4)∧(Zh Tryz.prog 28=some 1)∧(Ze Tryz.prog 28=some false)∧(ZB Tryz.prog 28=some 114)∧(Zh Tryz.prog 114=some 7)∧(ZE Tryz.prog 114 0=some 0)∧(Zh Tryz.prog 9=some 1)∧(Ze Tryz.prog 9=some false)∧(Tryz.prog.underlying 27=some (.slice 30))∧(Tryz.prog.underlying 28=some (.slice 114))∧(Tryz.prog.underlying 26=some (.slice 32)):=by
 refine ⟨?_,?_,?_,?_,?_,?_,?_,?_,?_,?_,?_,?_,?_,?_,?_,?_,?_,?_,?_,?_,?_,?_,?_,?_,?_,?_,?_,?_,?_⟩<;>first | trivial | kernel_rfl
theorem H7:(Zh Tryz.prog 30=some 6)∧(Ze Tryz.prog 30=some true):=by
 refine ⟨?_,?_⟩<;>first | trivial | kernel_rfl
theorem Mk {κ:Type}[DecidableEq κ](l:List (κ×AV×Nat))(x y:κ)(v:AV)(c:Nat):XZ (VS l x v c) y=if y=x then some v else XZ l y:=by
 unfold VS
 split
 ·rename_i hx
  induction l with
  | nil=>simp at hx
  | cons e r ih =>
    obtain ⟨k,u,b⟩:=e
    simp only [List.map_cons]
    unfold XZ at ih ⊢
    by_cases hk:k=x
    ·subst hk
     simp only [if_true,List.find?_cons]
     by_cases hy:y=k
     ·subst hy;simp
     ·have hy2:¬ k=y:=fun e=>hy e.symm
      simp only [decide_eq_false hy2,if_neg hy]
      by_cases hin:k∈r.map (·.1)
      ·have:=ih hin;rw [if_neg hy] at this;exact this
      ·have:∀ e∈r,(if e.1=k then (k,v,e.2.2) else e)=e:=by
        intro e he
        split
        ·rename_i h;exact absurd (h ▸ List.mem_map_of_mem (f:=(·.1)) he) hin
        ·rfl
       rw [show r.map (fun e=>if e.1=k then (k,v,e.2.2) else e)=r from (List.map_congr_left this).trans (by simp)]
    ·have hin:x∈r.map (·.1):=by
      simp only [List.map_cons,List.mem_cons] at hx
      rcases hx with h | h
      ·exact absurd h.symm hk
      ·exact h
     simp only [if_neg hk,List.find?_cons]
     by_cases hy:k=y
     ·subst hy
      simp [hk]
     ·simp only [decide_eq_false hy];exact ih hin
 ·rename_i hx
  unfold XZ
  rw [List.find?_append]
  by_cases hy:y=x
  ·subst hy
   have:l.find? (fun e=>decide (e.1=y))=none:=by
    rw [List.find?_eq_none];intro e he;simp only [decide_eq_true_eq];exact fun h=>hx (h ▸ List.mem_map_of_mem (f:=(·.1)) he)
   simp [this]
  ·have hy2:¬ x=y:=fun e=>hy e.symm
   rw [if_neg hy]
   simp [List.find?_cons,decide_eq_false hy2]
theorem WI.put {q:ML}(h:WI q)(x:Int)(b:Bool):WI (V1 q x b):=by
 intro y v hv
 unfold V1 at hv
 rw [Mk] at hv
 split at hv
 ·injection hv with hv;exact ⟨b,hv.symm⟩
 ·exact h y v hv
theorem WI.get {q:ML}(h:WI q)(x:Int):(XZ q.1 x).getD (vb false)=vb (XA q x):=by
 unfold XA
 cases hl:XZ q.1 x with
 | none=>rfl
 | some v=>obtain ⟨b,rfl⟩:=h x v hl;rfl
theorem Ku (n:Int)(k:Int)(p:List Pick)(a:Int)(y:List Tr)(c:List Cs)(e:List Tr)(q:ML):frm n (.mk k p a y c e) q=if k=1 then (decide (a=0)&&decide ((Ya (.mk k p a y c e)).length=0)&&Tt VO p,q) else if k=2 then (if W5 n p a y c e q || SM c then (false,q) else ((Yk n (Ya (.mk k p a y c e)) (true,V1 q a true)).1,V1 (Yk n (Ya (.mk k p a y c e)) (true,V1 q a true)).2 a false)) else (false,q):=by
 simp only [frm,Ya,UZ,QQ]
theorem Tu {n:Int}:∀ (l:List Tr) (q:Bool×ML),(∀ x∈l,∀ q,WI q→WI (frm n x q).2)→WI q.2→WI (Yk n l q).2
 | [],q,_,h=>h
 | t::r,q,hl,h=>by
   simp only [Yk]
   split
   ·exact Tu r _ (fun x hx=>hl x (List.mem_cons_of_mem _ hx)) (hl t List.mem_cons_self _ h)
   ·exact h
theorem F8 (n:Int)(t:Tr):∀ q,WI q→WI (frm n t q).2:=by
 refine VT (M:=fun t=>∀ q,WI q→WI (frm n t q).2) (fun t ih q hq=>?_) t
 obtain ⟨k,p,a,y,c,e⟩:=t
 rw [Ku]
 split
 ·exact hq
 ·split
  ·split
   ·exact hq
   ·exact (Tu _ _ (fun x hx=>ih x (XQ hx)) (hq.put _ _)).put _ _
  ·exact hq
abbrev bI (α:Type):=α→α→Int
theorem Pick.emb_len (p:Pick):p.emb.length=2:=rfl
theorem Kn (f:Value)(cmp:bI Pick)(hf:f=.func (.func 96) #[] #[])(hc:∀ a b:Pick,Pur Tryz.prog 96 [.agg a.emb,.agg b.emb] (vi (cmp a b)))(l:List Pick)(rt:Rt)(s:Nat)(hs:s=2∨l=[]):Pur Tryz.prog 141 [.list rt s (cj l),.val f] (vb (Tt cmp l)):=by
 subst hf
 intro σ
 refine Zi.ok (by kernel_rfl) (fun hok=>?_)
 have hl:=(hok _ List.mem_cons_self).len
 rw [cd] at hl
 clear hok
 refine Zb [] [(4,10,0)] Tryz.func141 rfl (by kernel_rfl) ?_;rw [Tryz.ntmps141,Tryz.results141]
 try simp only [go_sem,seval,SZ,cd]
 refine Zw (mu:=[]) (dr:=[(4,10,0)]) [4,5,6,7,8,9,10,11,12,13,14,15,16,17,18,19,20,21,22,23] (fun i:Nat=>[(5,vi ((i+1:Nat):Int))]) (fun _=>σ) (fun i=>(i+1≤l.length∨i=0)∧∀ (j:Nat) (a b:Pick),j<i→l[j]?=some a→l[j+1]?=some b→cmp a b<0) (fun i=>l.length-i) 0 (by kernel_rfl) ⟨.inr rfl,fun j a b h=>absurd h (Nat.not_lt_zero _)⟩ ⟨.refl _,trivial⟩ (.refl _) ?_
 rintro i ⟨i1,i2⟩
 try simp only [go_sem,seval,SZ,cd]
 refine ⟨fun h1=>?_,fun h1=>?_⟩
 ·rw [show IntKind.i64.wrap (((i+1:Nat):Int)-1)=((i:Nat):Int) from (by rw [Zp (by omega) (by omega)];omega)]
  have hs2:s=2:=by
   rcases hs with h | h
   ·exact h
   ·rw [h] at h1;simp at h1;omega
  refine ⟨by rw [hs2],by omega,by omega,fun c hc2=>?_⟩
  rw [Int.toNat_natCast] at hc2
  obtain ⟨a,ha,rfl⟩:=cJ hc2
  have hla:(Pick.emb a).length=2:=Pick.emb_len a
  have hta:List.take 2 (Pick.emb a)=Pick.emb a:=List.take_of_length_le (by omega)
  try simp only [go_sem,seval,SZ,cd,hla,hta]
  refine ⟨by rw [hs2],by omega,by omega,fun c hc3=>?_⟩
  rw [Int.toNat_natCast] at hc3
  obtain ⟨b,hb,rfl⟩:=cJ hc3
  have hab:=hc a b
  have hlb:(Pick.emb b).length=2:=Pick.emb_len b
  have htb:List.take 2 (Pick.emb b)=Pick.emb b:=List.take_of_length_le (by omega)
  try simp only [go_sem,seval,SZ,hlb,htb]
  first | refine hab.head ?_ | refine hab.use ?_
  try simp only [go_sem,seval,SZ]
  refine ⟨fun h2=>?_,fun h2=>?_⟩
  ·try simp only [go_sem,seval,SZ]
   refine Zz (Eq.symm ?_)
   rw [Bool.eq_false_iff]
   intro hi
   have:=(W2 l).1 hi i a b ha hb
   omega
  ·try simp only [go_sem,seval,SZ]
   have hlt:=(List.getElem?_eq_some_iff.1 hb).1
   rw [show IntKind.i64.wrap (((i+1:Nat):Int)+1)=((i+1+1:Nat):Int) from (by rw [Zp (by omega) (by omega)];omega)]
   refine .mk (i+1) ⟨.inl (by omega),fun j x y hj hx hy=>?_⟩ (by omega) ⟨.refl _,trivial⟩ (by repeat first | exact Zg.turn _ rfl | refine Zg.put rfl ?_) (.refl _)
   by_cases hji:j=i
   ·subst hji;rw [ha] at hx;rw [hb] at hy;injection hx with hx;injection hy with hy;subst hx;subst hy;omega
   ·exact i2 j x y (by omega) hx hy
 ·try simp only [go_sem,seval,SZ]
  refine Zz (Eq.symm ((W2 l).2 (fun j a b ha hb=>i2 j a b ?_ ha hb)))
  have:=(List.getElem?_eq_some_iff.1 hb).1
  omega
theorem Ko (f:Value)(cmp:bI Cs)(hf:f=.func (.func 143) #[] #[])(hc:∀ a b:Cs,Pur Tryz.prog 143 [.agg a.emb,.agg b.emb] (vi (cmp a b)))(l:List Cs)(rt:Rt)(s:Nat)(hs:s=7∨l=[]):Pur Tryz.prog 142 [.list rt s (cH l),.val f] (vb (Tt cmp l)):=by
 subst hf
 intro σ
 refine Zi.ok (by kernel_rfl) (fun hok=>?_)
 have hl:=(hok _ List.mem_cons_self).len
 rw [cG] at hl
 clear hok
 refine Zb [] [(4,10,0)] Tryz.func142 rfl (by kernel_rfl) ?_;rw [Tryz.ntmps142,Tryz.results142]
 try simp only [go_sem,seval,SY,cG]
 refine Zw (mu:=[]) (dr:=[(4,10,0)]) [4,5,6,7,8,9,10,11,12,13,14,15,16,17,18,19,20,21,22,23] (fun i:Nat=>[(5,vi ((i+1:Nat):Int))]) (fun _=>σ) (fun i=>(i+1≤l.length∨i=0)∧∀ (j:Nat) (a b:Cs),j<i→l[j]?=some a→l[j+1]?=some b→cmp a b<0) (fun i=>l.length-i) 0 (by kernel_rfl) ⟨.inr rfl,fun j a b h=>absurd h (Nat.not_lt_zero _)⟩ ⟨.refl _,trivial⟩ (.refl _) ?_
 rintro i ⟨i1,i2⟩
 try simp only [go_sem,seval,SY,cG]
 refine ⟨fun h1=>?_,fun h1=>?_⟩
 ·rw [show IntKind.i64.wrap (((i+1:Nat):Int)-1)=((i:Nat):Int) from (by rw [Zp (by omega) (by omega)];omega)]
  have hs2:s=7:=by
   rcases hs with h | h
   ·exact h
   ·rw [h] at h1;simp at h1;omega
  refine ⟨by rw [hs2],by omega,by omega,fun c hc2=>?_⟩
  rw [Int.toNat_natCast] at hc2
  obtain ⟨a,ha,rfl⟩:=cX hc2
  have hla:(Cs.emb a).length=7:=Cs.emb_len a
  have hta:List.take 7 (Cs.emb a)=Cs.emb a:=List.take_of_length_le (by omega)
  try simp only [go_sem,seval,SY,cG,hla,hta]
  refine ⟨by rw [hs2],by omega,by omega,fun c hc3=>?_⟩
  rw [Int.toNat_natCast] at hc3
  obtain ⟨b,hb,rfl⟩:=cX hc3
  have hab:=hc a b
  have hlb:(Cs.emb b).length=7:=Cs.emb_len b
  have htb:List.take 7 (Cs.emb b)=Cs.emb b:=List.take_of_length_le (by omega)
  try simp only [go_sem,seval,SY,hlb,htb]
  first | refine hab.head ?_ | refine hab.use ?_
  try simp only [go_sem,seval,SY]
  refine ⟨fun h2=>?_,fun h2=>?_⟩
  ·try simp only [go_sem,seval,SY]
   refine Zz (Eq.symm ?_)
   rw [Bool.eq_false_iff]
   intro hi
   have:=(W2 l).1 hi i a b ha hb
   omega
  ·try simp only [go_sem,seval,SY]
   have hlt:=(List.getElem?_eq_some_iff.1 hb).1
   rw [show IntKind.i64.wrap (((i+1:Nat):Int)+1)=((i+1+1:Nat):Int) from (by rw [Zp (by omega) (by omega)];omega)]
   refine .mk (i+1) ⟨.inl (by omega),fun j x y hj hx hy=>?_⟩ (by omega) ⟨.refl _,trivial⟩ (by repeat first | exact Zg.turn _ rfl | refine Zg.put rfl ?_) (.refl _)
   by_cases hji:j=i
   ·subst hji;rw [ha] at hx;rw [hb] at hy;injection hx with hx;injection hy with hy;subst hx;subst hy;omega
   ·exact i2 j x y (by omega) hx hy
 ·try simp only [go_sem,seval,SY]
  refine Zz (Eq.symm ((W2 l).2 (fun j a b ha hb=>i2 j a b ?_ ha hb)))
  have:=(List.getElem?_eq_some_iff.1 hb).1
  omega
theorem Hf (a b:Cs):Pur Tryz.prog 143 [.agg a.emb,.agg b.emb] (vi (Cx a b)):=by
 intro σ
 obtain ⟨s,t⟩:=a
 obtain ⟨k,p,x,y,c,e⟩:=t
 obtain ⟨s2,t2⟩:=b
 obtain ⟨k2,p2,x2,y2,c2,e2⟩:=t2
 simp only [dl]
 refine Zb [] [] Tryz.func143 rfl (by kernel_rfl) ?_;rw [Tryz.ntmps143,Tryz.results143]
 try simp only [go_sem,seval,Bm]
 refine (Rh s s2).use ?_
 try simp only [go_sem,seval,Bm]
 exact Zv
end Go.Vx
end
section
set_option maxRecDepth 100000
namespace Go.Vx
open Go.Proofs
def O5 (q:ML):AObj:=.map (ZR keI q.1) q.2
def Oz (n:Int)(t:Tr):Prop:=∀ (q:ML) (r:Nat) (σ:Store),σ.get r=some (O5 q)→WI q →
 Zi Tryz.prog 106 [.agg t.emb,vi n,.val (.map (some r))] σ (fun x σ'=>x=.ret (vb (frm n t q).1)∧σ'=σ.set r (O5 (frm n t q).2))
def F9 (b4 b5:Nat):Value:=.func (.func 145) #[] #[.pointer (some ⟨b4,0,none⟩),.pointer (some ⟨b5,0,none⟩)]
theorem He (n:Int)(t:Tr)(ih:Oz n t)(b4 b5 r:Nat)(q:ML)(hq:WI q)(σ:Store)(g4:σ.get b4=some (.cells [vi n]))(g5:σ.get b5=some (.cells [.val (.map (some r))]))(gr:σ.get r=some (O5 q)) :
 Zi Tryz.prog 145 [.agg t.emb,.val (.pointer (some ⟨b4,0,none⟩)),.val (.pointer (some ⟨b5,0,none⟩))] σ (fun x σ'=>x=.ret (vb (!(frm n t q).1))∧σ'=σ.set r (O5 (frm n t q).2)):=by
 have h:=ih q r σ gr hq
 obtain ⟨k,p,a,y,c,e⟩:=t
 simp only [ck] at h ⊢
 refine Zb [] [] Tryz.func145 rfl (by kernel_rfl) ?_;rw [Tryz.ntmps145,Tryz.results145]
 try simp only [go_sem,Int.reduceEq,Int.reduceLT,Int.reduceLE,↓reduceIte,Nat.reduceEqDiff,Nat.reduceAdd,Nat.reduceSub,Nat.reduceLT,Nat.reduceLeDiff,Nat.reduceMul,reduceCtorEq,Bl,g4,g5]
 refine h.mono ?_
 rintro x σ' ⟨rfl,rfl⟩
 cases hb:(frm n (.mk k p a y c e) q).1<;>try simp only [go_sem,Int.reduceEq,Int.reduceLT,Int.reduceLE,↓reduceIte,Nat.reduceEqDiff,Nat.reduceAdd,Nat.reduceSub,Nat.reduceLT,Nat.reduceLeDiff,Nat.reduceMul,reduceCtorEq,Bl]<;>exact .mk (.refl _) (.refl _) ⟨rfl,rfl⟩
theorem Gt {n:Int}{l:List Tr}{i:Nat}{x:Tr}(h:l[i]?=some x)(q:Bool×ML):Yk n (l.take (i+1)) q=Yk n [x] (Yk n (l.take i) q):=by
 rw [List.take_add_one,h,Option.toList_some,UZ]
theorem F7 {n:Int}{l:List Tr}{i:Nat}{q:Bool×ML}(h:(Yk n (l.take i) q).1=false):Yk n l q=Yk n (l.take i) q:=by
 conv=>lhs;rw [← List.take_append_drop i l]
 rw [UZ,QP h]
theorem MJ (n:Int)(l:List Tr)(hl:∀ x∈l,Oz n x)(b4 b5 r:Nat)(q:ML)(hq:WI q)(σ:Store)(g4:σ.get b4=some (.cells [vi n]))(g5:σ.get b5=some (.cells [.val (.map (some r))]))(gr:σ.get r=some (O5 q))(n4:b4≠r)(n5:b5≠r) :
 Zi Tryz.prog 144 [.list .none 6 (cm l),.val (F9 b4 b5)] σ (fun x σ'=>x=.ret (vb (!(Yk n l (true,q)).1))∧σ'=σ.set r (O5 (Yk n l (true,q)).2)):=by
 have hok:∀ i,(∀ j,j<i→(!(Yk n (l.take (j+1)) (true,q)).1)=false)→(Yk n (l.take i) (true,q)).1=true:=by
  intro i h
  cases i with
  | zero=>rfl
  | succ i=>have:=h i (by omega);simpa using this
 have h:=T7 (F9 b4 b5) .none 6 (cm l) (fun i=>σ.set r (O5 (Yk n (l.take i) (true,q)).2)) (fun i=>!(Yk n (l.take (i+1)) (true,q)).1) (.inl rfl) (fun i e he=>dq l e (List.mem_of_getElem? he))
  (fun i e he hb=>by
   obtain ⟨x,hx,rfl⟩:=dD he
   have ht:=hok i hb
   have hstep:=Gt (n:=n) hx (true,q)
   simp only [Yk,ht,if_true] at hstep
   simp only [hstep]
   unfold F9
   refine Z0.of ?_
   refine (He n x (hl x (List.mem_of_getElem? hx)) b4 b5 r (Yk n (l.take i) (true,q)).2 (Tu _ _ (fun x _ q hq=>F8 n x q hq) hq) _ (by rw [Zc n4];exact g4) (by rw [Zc n5];exact g5) (Zd gr)).mono ?_
   rintro x σ' ⟨rfl,rfl⟩
   exact ⟨rfl,Zu⟩)
 have h0:σ.set r (O5 (Yk n (l.take 0) (true,q)).2)=σ:=by simp only [List.take_zero,Yk];exact YE gr
 simp only [h0] at h
 refine h.mono ?_
 rintro x σ' (⟨i,hi,hb,hn,rfl,rfl⟩ | ⟨hn,rfl,rfl⟩)
 ·have hf:(Yk n (l.take (i+1)) (true,q)).1=false:=by simpa using hb
  have:=F7 hf
  rw [this,hf]
  exact ⟨rfl,rfl⟩
 ·rw [cK] at hn
  have ht:=hok l.length hn
  simp only [cK,List.take_length] at ht ⊢
  rw [ht]
  simp
def am (n:Int)(l:List Tr)(a:Int)(q:ML):Bool×ML:=((Yk n l (true,V1 q a true)).1,V1 (Yk n l (true,V1 q a true)).2 a false)
theorem Cq (n:Int)(k:Int)(p:List Pick)(a:Int)(y:List Tr)(c:List Cs)(e:List Tr)(q:ML)(l:List Tr)(hl:l=Ya (.mk k p a y c e)):frm n (.mk k p a y c e) q=if k=1 then (decide (a=0)&&decide (l.length=0)&&Tt VO p,q) else if k=2 then (if W5 n p a y c e q || SM c then (false,q) else am n l a q) else (false,q):=by
 subst hl;exact Ku n k p a y c e q
theorem Ea (n:Int)(h0:0≤n)(t:Tr)(hB:trN t≤bigN):Oz n t:=by
 revert hB
 refine VT (M:=fun t=>trN t≤bigN→Oz n t) (fun t ih hB=>?_) t
 intro q r σ gr hq
 have hpc:=Me t hB
 have hbig:bigN=1073741824:=rfl
 have hmem:∀ x∈Ya t,Oz n x:=fun x hx=>ih x (XQ hx) (by have:=XQ hx;omega)
 obtain ⟨l,hl⟩:∃ l,l=Ya t:=⟨_,rfl⟩
 rw [← hl] at hpc hmem
 obtain ⟨k,p,a,y,c,e⟩:=t
 have hfr:=Cq n k p a y c e q l hl
 simp only [ck] at hpc ⊢
 obtain ⟨F,hF⟩:∃ F,F=frm n (.mk k p a y c e) q:=⟨_,rfl⟩
 rw [← hF] at hfr ⊢
 refine Zb [4,5] [] Tryz.func106 rfl (by kernel_rfl) ?_;rw [Tryz.ntmps106,Tryz.results106]
 refine ej ?_
 intro b4 hb4 b5 hb5
 have n4r:b4≠r:=fun e=>by rw [e] at hb4;rw [Zm hb4] at gr;cases gr
 have n5r:b5≠r:=fun e=>by rw [e] at hb5;rw [Zm hb5.2] at gr;cases gr
 have n54:b5≠b4:=Ne.symm hb5.1
 by_cases hk1:k=1
 ·have e1:=eq_true hk1
  rw [if_pos hk1] at hfr
  by_cases ha:a=0
  ·have e2:=eq_true ha
   try simp only [go_sem,Int.reduceEq,Int.reduceLT,Int.reduceLE,↓reduceIte,Nat.reduceEqDiff,Nat.reduceAdd,Nat.reduceSub,Nat.reduceLT,Nat.reduceLeDiff,Nat.reduceMul,reduceCtorEq,YH,e1,e2,decide_true]
   refine hpc.use ?_
   by_cases h3:((l.length:Nat):Int)=0
   ·have e3:=eq_true h3
    have h3':l.length=0:=by omega
    try simp only [go_sem,Int.reduceEq,Int.reduceLT,Int.reduceLE,↓reduceIte,Nat.reduceEqDiff,Nat.reduceAdd,Nat.reduceSub,Nat.reduceLT,Nat.reduceLeDiff,Nat.reduceMul,reduceCtorEq,YH,e1,e2,e3,decide_true,cK]
    refine (Kn _ VO rfl UN p .none 2 (.inl rfl)).use ?_
    cases hb:Tt VO p
    ·refine ej ?_
     exact .mk (.refl _) (((Sub.refl _).skip _).skip _) ⟨by rw [hfr]<;>simp [hb],by rw [hfr];exact (YE gr).symm⟩
    ·refine ej ?_
     exact .mk (.refl _) (((Sub.refl _).skip _).skip _) ⟨by rw [hfr]<;>simp [hb,ha,h3'],by rw [hfr];exact (YE gr).symm⟩
   ·have e3:=eq_false h3
    have h3':¬ l.length=0:=by omega
    try simp only [go_sem,Int.reduceEq,Int.reduceLT,Int.reduceLE,↓reduceIte,Nat.reduceEqDiff,Nat.reduceAdd,Nat.reduceSub,Nat.reduceLT,Nat.reduceLeDiff,Nat.reduceMul,reduceCtorEq,YH,e1,e2,e3,decide_true,decide_false,cK]
    exact .mk (.refl _) (((Sub.refl _).skip _).skip _) ⟨by rw [hfr]<;>simp [h3'],by rw [hfr];exact (YE gr).symm⟩
  ·have e2:=eq_false ha
   refine fP ?_
   exact .mk (.refl _) (((Sub.refl _).skip _).skip _) ⟨by rw [hfr]<;>simp [ha],by rw [hfr];exact (YE gr).symm⟩
 ·have e1:=eq_false hk1
  rw [if_neg hk1] at hfr
  by_cases hk2:k=2
  ·have e2:=eq_true hk2
   rw [if_pos hk2] at hfr
   have gl:=hq.get a
   by_cases c1:a<0
   ·have x1:=eq_true c1
    have hbad:W5 n p a y c e q=true:=by simp [W5,c1]
    rw [hbad] at hfr
    simp only [Bool.true_or,if_true] at hfr
    try simp only [go_sem,Int.reduceEq,Int.reduceLT,Int.reduceLE,↓reduceIte,Nat.reduceEqDiff,Nat.reduceAdd,Nat.reduceSub,Nat.reduceLT,Nat.reduceLeDiff,Nat.reduceMul,reduceCtorEq,YH,e1,e2,x1,n54,decide_true,decide_false,cK,cG,cd]
    exact .mk (.refl _) (((Sub.refl _).skip _).skip _) ⟨by rw [hfr],by rw [hfr];exact (YE gr).symm⟩
   ·have x1:=eq_false c1
    by_cases c2:n≤a
    ·have x2:=eq_true c2
     have hbad:W5 n p a y c e q=true:=by simp [W5,c2]
     rw [hbad] at hfr
     simp only [Bool.true_or,if_true] at hfr
     try simp only [go_sem,Int.reduceEq,Int.reduceLT,Int.reduceLE,↓reduceIte,Nat.reduceEqDiff,Nat.reduceAdd,Nat.reduceSub,Nat.reduceLT,Nat.reduceLeDiff,Nat.reduceMul,reduceCtorEq,YH,e1,e2,x1,x2,n54,decide_true,decide_false,cK,cG,cd]
     exact .mk (.refl _) (((Sub.refl _).skip _).skip _) ⟨by rw [hfr],by rw [hfr];exact (YE gr).symm⟩
    ·have x2:=eq_false c2
     try simp only [go_sem,Int.reduceEq,Int.reduceLT,Int.reduceLE,↓reduceIte,Nat.reduceEqDiff,Nat.reduceAdd,Nat.reduceSub,Nat.reduceLT,Nat.reduceLeDiff,Nat.reduceMul,reduceCtorEq,YH,e1,e2,x1,x2,n54,decide_true,decide_false]
     refine U4 (z:=.bool false) YH.2.2.2.2.2.2.2.2.2.2.2.1 YH.2.2.2.2.2.2.2.2.2.2.2.2.1 YH.2.2.2.2.2.2.2.2.2.2.2.2.2.1 (by rw [Za n5r,Za n4r];exact gr) ?_
     rw [Ml,show cS (.bool false)=vb false from rfl,gl]
     cases c3:XA q a with
     | true =>
       have hbad:W5 n p a y c e q=true:=by simp [W5,c3]
       rw [hbad] at hfr
       simp only [Bool.true_or,if_true] at hfr
       try simp only [go_sem,Int.reduceEq,Int.reduceLT,Int.reduceLE,↓reduceIte,Nat.reduceEqDiff,Nat.reduceAdd,Nat.reduceSub,Nat.reduceLT,Nat.reduceLeDiff,Nat.reduceMul,reduceCtorEq,YH,e1,n54,decide_true,decide_false,cK,cG,cd]
       exact .mk (.refl _) (((Sub.refl _).skip _).skip _) ⟨by rw [hfr],by rw [hfr];exact (YE gr).symm⟩
     | false =>
       by_cases c4:y.length=1
       ·have x4:(((y.length:Nat):Int)=1)=True:=eq_true (by omega)
        by_cases c5:e.length=1
        ·have x5:(((e.length:Nat):Int)=1)=True:=eq_true (by omega)
         by_cases c6:c.length=0
         ·have x6:(((c.length:Nat):Int)=0)=True:=eq_true (by omega)
          have hbad:W5 n p a y c e q=true:=by simp [W5,c6]
          rw [hbad] at hfr
          simp only [Bool.true_or,if_true] at hfr
          try simp only [go_sem,Int.reduceEq,Int.reduceLT,Int.reduceLE,↓reduceIte,Nat.reduceEqDiff,Nat.reduceAdd,Nat.reduceSub,Nat.reduceLT,Nat.reduceLeDiff,Nat.reduceMul,reduceCtorEq,YH,x4,x5,x6,n54,decide_true,decide_false,cK,cG,cd]
          exact .mk (.refl _) (((Sub.refl _).skip _).skip _) ⟨by rw [hfr],by rw [hfr];exact (YE gr).symm⟩
         ·have x6:(((c.length:Nat):Int)=0)=False:=eq_false (by omega)
          by_cases c7:0<p.length
          ·have x7:((0:Int)<((p.length:Nat):Int))=True:=eq_true (by omega)
           have hbad:W5 n p a y c e q=true:=by simp [W5,c7]
           rw [hbad] at hfr
           simp only [Bool.true_or,if_true] at hfr
           refine fC ?_
           exact .mk (.refl _) (((Sub.refl _).skip _).skip _) ⟨by rw [hfr],by rw [hfr];exact (YE gr).symm⟩
          ·have x7:((0:Int)<((p.length:Nat):Int))=False:=eq_false (by omega)
           have hgood:W5 n p a y c e q=false:=by simp [W5,c1,c2,c3,c4,c5,c6,c7]
           rw [hgood,Bool.false_or] at hfr
           refine fC ?_
           obtain ⟨c0,cr,rfl⟩:=List.exists_cons_of_ne_nil (show c≠[] from fun h=>c6 (by rw [h];rfl))
           refine ⟨by simp,fun d hd=>?_⟩
           rw [show Int.toNat 0=0 from rfl] at hd
           have hd2:d=c0.emb:=by simpa [cH] using hd.symm
           subst hd2
           have hisc:=Ko _ Cx rfl Hf (c0::cr) .none 7 (.inl rfl)
           obtain ⟨s0,t0⟩:=c0
           obtain ⟨k0,p0,a0,y0,cc0,e0⟩:=t0
           try simp only [go_sem,Int.reduceEq,Int.reduceLT,Int.reduceLE,↓reduceIte,Nat.reduceEqDiff,Nat.reduceAdd,Nat.reduceSub,Nat.reduceLT,Nat.reduceLeDiff,Nat.reduceMul,reduceCtorEq,YH,dl]
           refine ⟨fun q1=>?_,fun q1=>?_⟩
           ·refine hisc.use ?_
            cases hb:Tt Cx (.mk s0 (.mk k0 p0 a0 y0 cc0 e0)::cr) with
            | false =>
              have hbc:SM (.mk s0 (.mk k0 p0 a0 y0 cc0 e0)::cr)=true:=by simp [SM,hb]
              rw [hbc,if_pos rfl] at hfr
              refine eR ?_
              exact .mk (.refl _) (((Sub.refl _).skip _).skip _) ⟨by rw [hfr]<;>simp [hb],by rw [hfr];exact (YE gr).symm⟩
            | true =>
              have hbc:SM (.mk s0 (.mk k0 p0 a0 y0 cc0 e0)::cr)=false:=by simp [SM,hb,Cs.name,q1]
              rw [hbc,if_neg (by decide)] at hfr
              refine eR ?_
              refine Xm (l:=q.1) (c:=q.2) YH.2.2.2.2.2.2.2.2.2.2.2.1 YH.2.2.2.2.2.2.2.2.2.2.2.2.1 (by rw [Za n5r,Za n4r];exact gr) ?_
              rw [Zk n5r,Zk n4r]
              have hmo:AObj.map (ZR keI (VS q.1 a (.val (.bool true)) q.2)) (Uu q.1 a q.2)=O5 (V1 q a true):=rfl
              rw [hmo]
              refine ej ?_
              refine hpc.use ?_
              refine ej ?_
              refine (MJ n l hmem b4 b5 r (V1 q a true) (hq.put a true) _ (by rw [Za n54,Zj]) (by rw [Zj]) (by rw [Za n5r,Za n4r,Zd gr]) n4r n5r).mono ?_
              rintro x σ' ⟨rfl,rfl⟩
              rw [Zk n5r,Zk n4r,Zu]
              unfold am at hfr
              obtain ⟨X,hX⟩:∃ X,X=Yk n l (true,V1 q a true):=⟨_,rfl⟩
              rw [← hX] at hfr ⊢
              obtain ⟨X1,X2⟩:=X
              cases X1<;>try simp only [go_sem,Int.reduceEq,Int.reduceLT,Int.reduceLE,↓reduceIte,Nat.reduceEqDiff,Nat.reduceAdd,Nat.reduceSub,Nat.reduceLT,Nat.reduceLeDiff,Nat.reduceMul,reduceCtorEq,YH,Bool.not_false,Bool.not_true]
              ·refine Xm (l:=X2.1) (c:=X2.2) YH.2.2.2.2.2.2.2.2.2.2.2.1 YH.2.2.2.2.2.2.2.2.2.2.2.2.1 (by rw [Za n5r,Za n4r,Zd gr];rfl) ?_
               rw [Zk n5r,Zk n4r,Zu]
               refine ej ?_
               exact .mk (.refl _) (((Sub.refl _).skip _).skip _) ⟨by rw [hfr],by rw [hfr];rfl⟩
              ·refine Xm (l:=X2.1) (c:=X2.2) YH.2.2.2.2.2.2.2.2.2.2.2.1 YH.2.2.2.2.2.2.2.2.2.2.2.2.1 (by rw [Za n5r,Za n4r,Zd gr];rfl) ?_
               rw [Zk n5r,Zk n4r,Zu]
               refine ej ?_
               exact .mk (.refl _) (((Sub.refl _).skip _).skip _) ⟨by rw [hfr],by rw [hfr];rfl⟩
           ·have hbc:SM (.mk s0 (.mk k0 p0 a0 y0 cc0 e0)::cr)=true:=by simp [SM,Cs.name,q1,emptyS]
            rw [hbc,if_pos rfl] at hfr
            refine eR ?_
            exact .mk (.refl _) (((Sub.refl _).skip _).skip _) ⟨by rw [hfr]<;>simp [hb],by rw [hfr];exact (YE gr).symm⟩
        ·have x5:(((e.length:Nat):Int)=1)=False:=eq_false (by omega)
         have hbad:W5 n p a y c e q=true:=by simp [W5,c5]
         rw [hbad] at hfr
         simp only [Bool.true_or,if_true] at hfr
         try simp only [go_sem,Int.reduceEq,Int.reduceLT,Int.reduceLE,↓reduceIte,Nat.reduceEqDiff,Nat.reduceAdd,Nat.reduceSub,Nat.reduceLT,Nat.reduceLeDiff,Nat.reduceMul,reduceCtorEq,YH,x4,x5,n54,decide_true,decide_false,cK,cG,cd]
         exact .mk (.refl _) (((Sub.refl _).skip _).skip _) ⟨by rw [hfr],by rw [hfr];exact (YE gr).symm⟩
       ·have x4:(((y.length:Nat):Int)=1)=False:=eq_false (by omega)
        have hbad:W5 n p a y c e q=true:=by simp [W5,c4]
        rw [hbad] at hfr
        simp only [Bool.true_or,if_true] at hfr
        try simp only [go_sem,Int.reduceEq,Int.reduceLT,Int.reduceLE,↓reduceIte,Nat.reduceEqDiff,Nat.reduceAdd,Nat.reduceSub,Nat.reduceLT,Nat.reduceLeDiff,Nat.reduceMul,reduceCtorEq,YH,x4,n54,decide_true,decide_false,cK,cG,cd]
        exact .mk (.refl _) (((Sub.refl _).skip _).skip _) ⟨by rw [hfr],by rw [hfr];exact (YE gr).symm⟩
  ·have e2:=eq_false hk2
   rw [if_neg hk2] at hfr
   refine fP ?_
   exact .mk (.refl _) (((Sub.refl _).skip _).skip _) ⟨by rw [hfr]<;>simp [hk2],by rw [hfr];exact (YE gr).symm⟩
theorem QB (n:Int)(h0:0≤n)(t:Tr)(hB:trN t≤bigN):Pur Tryz.prog 61 [.agg t.emb,vi n] (vb (YW t n)):=by
 intro σ
 have hs:=BM t 4000 hB (by omega) (by omega)
 have hf:=Ea n h0 t hB
 unfold YW
 obtain ⟨S,hS⟩:∃ S,S=Ww t 4000:=⟨_,rfl⟩
 rw [← hS] at hs ⊢
 obtain ⟨F,hF⟩:∃ F,F=frm n t ([],0):=⟨_,rfl⟩
 unfold Oz at hf
 have hf':=hf ([],0)
 rw [← hF] at hf' ⊢
 clear hf
 obtain ⟨k,p,a,y,c,e⟩:=t
 simp only [ck] at hs hf' ⊢
 refine Zb [] [] Tryz.func61 rfl (by kernel_rfl) ?_;rw [Tryz.ntmps61,Tryz.results61]
 refine gR ?_
 refine hs.use ?_
 by_cases h1:S≤4000
 ·have e1:=eq_true h1
  try simp only [go_sem,Int.reduceEq,Int.reduceLT,Int.reduceLE,↓reduceIte,Nat.reduceEqDiff,Nat.reduceAdd,Nat.reduceSub,Nat.reduceLT,Nat.reduceLeDiff,Nat.reduceMul,reduceCtorEq,H7,e1,decide_true]
  intro b hb
  refine gR ?_
  refine (hf' b _ (Zj _ _ _) (fun x v h=>by simp [XZ] at h)).mono ?_
  rintro x σ' ⟨rfl,rfl⟩
  rw [Yj]
  obtain ⟨F1,F2⟩:=F
  cases F1<;>try simp only [go_sem,Int.reduceEq,Int.reduceLT,Int.reduceLE,↓reduceIte,Nat.reduceEqDiff,Nat.reduceAdd,Nat.reduceSub,Nat.reduceLT,Nat.reduceLeDiff,Nat.reduceMul,reduceCtorEq,H7]<;>exact ZF (.refl _) ((Sub.refl _).skip _)
 ·have e1:=eq_false h1
  try simp only [go_sem,Int.reduceEq,Int.reduceLT,Int.reduceLE,↓reduceIte,Nat.reduceEqDiff,Nat.reduceAdd,Nat.reduceSub,Nat.reduceLT,Nat.reduceLeDiff,Nat.reduceMul,reduceCtorEq,H7,e1,decide_false]
  exact Zz (by simp)
end Go.Vx
end
section
set_option maxRecDepth 100000
namespace Go.Vx
open Go.Proofs
theorem Gh:(Zh Tryz.prog 25=some 2)∧(Ze Tryz.prog 25=some true):=by
 refine ⟨?_,?_⟩<;>first | trivial | kernel_rfl
theorem RT:(Zh Tryz.prog 25=some 2)∧(Ze Tryz.prog 25=some true)∧(ZB Tryz.prog 23=some 3)∧(Zh Tryz.prog 3=some 1)∧(Zl Tryz.prog 3=some (.int .i64 0))∧(Tryz.prog.underlying 64=some (.slice 9))∧(ZU Tryz.prog 3=some 8):=by
 refine ⟨?_,?_,?_,?_,?_,?_,?_⟩<;>first | trivial | kernel_rfl
theorem OS (f:Flat)(l:List Pick)(out:List Row)(n:Nat)(q:List Row×Nat)(h:ZJ f l out n=some q)(hout:∀ r∈out,r.classes.length=n)(hn:n≤8∨out=[]):(∀ r∈q.1,r.classes.length=q.2)∧(q.2≤8∨q.1=[]):=by
 induction l generalizing out n with
 | nil=>simp only [ZJ,Option.some.injEq] at h;subst h;exact ⟨hout,hn⟩
 | cons x r ih =>
   simp only [ZJ] at h
   cases hc:Y0 f x with
   | none=>rw [hc] at h;cases h
   | some c =>
     rw [hc] at h
     simp only at h
     split at h
     ·cases h
     ·rename_i hno
      refine ih _ _ h (fun r hr=>?_) (.inl (by omega))
      rcases List.mem_append.1 hr with hr | hr
      ·have:=hout r hr
       have hlen:0<out.length:=List.length_pos_of_mem hr
       omega
      ·simp at hr;subst hr;simp
theorem XB (f:Flat)(pred:Str)(h:(ZM f pred).2.2=0):Vv f=0∧(∀ r∈(ZM f pred).1,r.classes.length=(ZM f pred).2.1)∧(ZM f pred).2.1≤8∧(ZM f pred).1≠[]∧(ZM f pred).1.map Row.pick=Z6 f pred:=by
 unfold ZM at h ⊢
 by_cases hc:Vv f≠0
 ·rw [if_pos hc] at h;exact absurd h hc
 ·rw [if_neg hc] at h ⊢
  cases hl:ZJ f (Z6 f pred) [] 0 with
  | none=>rw [hl] at h;simp at h
  | some q =>
    obtain ⟨out,n⟩:=q
    rw [hl] at h
    simp only at h ⊢
    by_cases ho:out=[]
    ·rw [if_pos ho] at h;simp at h
    ·rw [if_neg ho]
     obtain ⟨a1,a2⟩:=OS f _ _ _ _ hl (by simp) (.inr rfl)
     refine ⟨by simpa using hc,a1,a2.resolve_right ho,ho,?_⟩
     have:=TL f _ _ _ _ hl
     simpa using this
theorem Qf (f:Flat)(pred:Str):(ZM f pred).1.length≤(Z6 f pred).length:=by
 by_cases h:(ZM f pred).2.2=0
 ·have:=(XB f pred h).2.2.2.2
  rw [← this];simp
 ·have:(ZM f pred).1=[]:=by
   unfold ZM at h ⊢
   split
   ·rfl
   ·rename_i hc
    rw [if_neg hc] at h
    cases hl:ZJ f (Z6 f pred) [] 0 with
    | none=>rfl
    | some q =>
      rw [hl] at h
      simp only at h ⊢
      split
      ·rfl
      ·rename_i ho;rw [if_neg ho] at h;exact absurd rfl h
  rw [this];simp
def WA (f:Flat)(pred:Str):List Pick×Nat×Int:=if (ZM f pred).2.2≠0 then ([],0,(ZM f pred).2.2) else ((ZM f pred).1.map Row.pick,(ZM f pred).2.1,0)
theorem Ou (f:Flat)(pred:Str)(hh:(Z6 f pred).length≤137438953472):Pur Tryz.prog 16 [.agg f.emb,vs pred] (.tup [.list .none 2 (cj (WA f pred).1),vi ((WA f pred).2.1:Nat),vi (WA f pred).2.2]):=by
 intro σ
 have h:=OR f pred hh
 have hp:=OY (ZM f pred).1 .none 3 (.inl rfl)
 unfold WA
 obtain ⟨⟨rs,n,e⟩,hr⟩:∃ q,q=ZM f pred:=⟨_,rfl⟩
 rw [← hr] at h hp ⊢
 simp only at h hp ⊢
 simp only [Flat.emb] at h ⊢
 refine Zb [] [] Tryz.func16 rfl (by kernel_rfl) ?_;rw [Tryz.ntmps16,Tryz.results16]
 try simp only [go_sem,seval,Gh]
 refine h.use ?_
 try simp only [go_sem,seval,Gh]
 refine ⟨fun h1=>?_,fun h1=>?_⟩
 ·rw [if_pos (by simpa using h1)]
  try simp only [go_sem,seval,Gh]
  exact ZF (.tup3 (.nilA _ _ _) (.refl _) (.refl _)) (.refl _)
 ·have h1':e=0:=by simpa using h1
  subst h1'
  rw [if_neg (by simp)]
  try simp only [go_sem,seval,Gh]
  refine hp.use ?_
  try simp only [go_sem,seval,Gh]
  exact ZF (.refl _) (.refl _)
def VR (l:List Row)(n:Nat):List Int:=((List.range n).filter fun a=>!decide (Z5 l a=[])).map fun a:Nat=>(a:Int)
def RG (f:Flat)(pred:Str):List Int×Int:=if (ZM f pred).2.2≠0 then ([],(ZM f pred).2.2) else (VR (ZM f pred).1 (ZM f pred).2.1,0)
theorem OC (l:List Row)(n:Nat):VR l (n+1)=VR l n++(if Z5 l n=[] then [] else [(n:Int)]):=by
 unfold VR
 rw [List.range_succ,List.filter_append,List.map_append]
 congr 1
 by_cases h:Z5 l n=[]<;>simp [h]
theorem NQ (l:List Row)(n:Nat):(VR l n).length≤n:=by
 unfold VR;rw [List.length_map];exact Nat.le_trans (List.length_filter_le _ _) (by simp)
theorem H0 (f:Flat)(pred:Str)(hh:(Z6 f pred).length≤137438953472):Pur Tryz.prog 26 [.agg f.emb,vs pred] (.tup [.list .none 1 (Yw (RG f pred).1),vi (RG f pred).2]):=by
 intro σ
 refine Zi.nodup (by kernel_rfl) (fun hnd=>?_)
 have h:=OR f pred hh
 have hf:=XB f pred
 have hlen:=Qf f pred
 unfold RG
 obtain ⟨⟨rs,n,e⟩,hr⟩:∃ q,q=ZM f pred:=⟨_,rfl⟩
 rw [← hr] at h hf hlen ⊢
 simp only at h hf hlen ⊢
 simp only [Flat.emb] at h ⊢
 refine Zb [] [] Tryz.func26 rfl (by kernel_rfl) ?_;rw [Tryz.ntmps26,Tryz.results26]
 refine iH ?_
 refine h.use ?_
 refine iH ?_
 refine ⟨fun h1=>?_,fun h1=>?_⟩
 ·rw [if_pos (by simpa using h1)]
  refine iH ?_
  exact ZF (.tup2 (.nilA _ _ _) (.refl _)) (.refl _)
 ·have h1':e=0:=by simpa using h1
  subst h1'
  rw [if_neg (by simp)]
  obtain ⟨_,f1,f2,f3,f4⟩:=hf rfl
  refine iH ?_
  refine Zw (mu:=[]) (dr:=[]) [9,10,22,23,24,25,26,27,28,29,30,31,32,33,34] (fun x:Nat×AV×Store=>[(22,vi x.1),(9,x.2.1)]) (fun x=>x.2.2) (fun x=>x.1≤n∧LV σ x.2.2 x.2.1 1 (Yw (VR rs x.1))∧Has σ x.2.2) (fun x=>n-x.1) (0,.list .full 0 [],σ) (by kernel_rfl) ⟨by omega,LV.nil _ _ _,.refl _⟩ ⟨.refl _,.refl _,trivial⟩ (.refl _) ?_
  rintro ⟨i,v,S⟩ ⟨i1,i2,i3⟩
  simp only at i1 i2 i3
  refine iH ?_
  refine ⟨fun h2=>?_,fun h2=>?_⟩
  ·refine iH ?_
   refine (Sw rs i (by omega) (fun r hr=>by rw [f1 r hr];omega) .none 3 (.inl rfl)).use ?_
   refine iH ?_
   have hs:=OC rs i
   have hwl:=NQ rs i
   have hw:IntKind.i64.wrap ((i:Int)+1)=((i+1:Nat):Int):=Zp (by omega) (by omega)
   by_cases hn:Z5 rs i=[]
   ·rw [if_pos hn,List.append_nil] at hs
    have h0:(0<(((Tp (Z5 rs i)).length:Nat):Int))=False:=by rw [hn];simp
    try simp only [go_sem,seval,RT,h0,decide_false]
    rw [hw]
    exact .mk (i+1,v,S) ⟨by simp only;omega,by simp only [hs];exact i2,i3⟩ (by simp only;omega) ⟨.refl _,.refl _,trivial⟩ (by repeat first | exact Zg.turn _ rfl | refine Zg.put rfl ?_) (.refl _)
   ·rw [if_neg hn] at hs
    have h0:(0<(((Tp (Z5 rs i)).length:Nat):Int))=True:=by
     have:(Z5 rs i).length≠0:=fun h=>hn (List.length_eq_zero_iff.1 h)
     simp;omega
    try simp only [go_sem,seval,RT,h0,decide_true,i2.one,i2.cells]
    refine ⟨rfl,i2.append rfl (by decide) (by simp [Yw];omega) rfl (by simp) i3 (fun v' S' hv' hkp hS'=>?_)⟩
    try simp only [go_sem,seval,RT,hv'.one,hv'.cells]
    rw [hw]
    exact .mk (i+1,v',S') ⟨by simp only;omega,by simp only [hs,Yw,List.map_append];exact hv',hS'⟩ (by simp only;omega) ⟨.refl _,.refl _,trivial⟩ (by repeat first | exact Zg.turn _ rfl | refine Zg.put rfl ?_) (.refl _)
  ·have hin:i=n:=by omega
   subst hin
   try simp only [go_sem,seval,RT,i2.one,i2.cells]
   exact .mk (.tup2 i2.wk (.refl _)) (i3.sub hnd) ⟨rfl,rfl⟩
end Go.Vx
end
