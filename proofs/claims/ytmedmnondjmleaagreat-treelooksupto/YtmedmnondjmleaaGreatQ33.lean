/- Part Q33 of the proof of treeLooksProved: the walk of the program on abstract values, and the plain law. -/
import Derived.Test.YtmedmnondjmleaaGreatQ32
set_option linter.unusedVariables false
set_option linter.unusedSimpArgs false
section
set_option maxRecDepth 100000
namespace Go.Vx
open Go.Proofs
def O2 (q:ML):AObj:=.map (ZM keI q.1) q.2
def Oz (n:Int)(t:Tr):Prop:=∀ (q:ML) (r:Nat) (σ:Store),σ.get r=some (O2 q)→WE q →
 Zj Tryz.prog 106 [.agg t.emb,vi n,.val (.map (some r))] σ (fun x σ'=>x=.ret (vb (frm n t q).1)∧σ'=σ.set r (O2 (frm n t q).2))
def Ek (b4 b5:Nat):Value:=.func (.func 145) #[] #[.pointer (some ⟨b4,0,none⟩),.pointer (some ⟨b5,0,none⟩)]
theorem Hf (n:Int)(t:Tr)(ih:Oz n t)(b4 b5 r:Nat)(q:ML)(hq:WE q)(σ:Store)(g4:σ.get b4=some (.cells [vi n]))(g5:σ.get b5=some (.cells [.val (.map (some r))]))(gr:σ.get r=some (O2 q)) :
 Zj Tryz.prog 145 [.agg t.emb,.val (.pointer (some ⟨b4,0,none⟩)),.val (.pointer (some ⟨b5,0,none⟩))] σ (fun x σ'=>x=.ret (vb (!(frm n t q).1))∧σ'=σ.set r (O2 (frm n t q).2)):=by
 have h:=ih q r σ gr hq
 obtain ⟨k,p,a,y,c,e⟩:=t
 simp only [cm] at h ⊢
 refine Zc [] [] Tryz.func145 rfl (by kernel_rfl) ?_;rw [Tryz.ntmps145,Tryz.results145]
 try simp only [go_sem,Int.reduceEq,Int.reduceLT,Int.reduceLE,↓reduceIte,Nat.reduceEqDiff,Nat.reduceAdd,Nat.reduceSub,Nat.reduceLT,Nat.reduceLeDiff,Nat.reduceMul,reduceCtorEq,Bv,g4,g5]
 refine h.mono ?_
 rintro x σ' ⟨rfl,rfl⟩
 cases hb:(frm n (.mk k p a y c e) q).1<;>try simp only [go_sem,Int.reduceEq,Int.reduceLT,Int.reduceLE,↓reduceIte,Nat.reduceEqDiff,Nat.reduceAdd,Nat.reduceSub,Nat.reduceLT,Nat.reduceLeDiff,Nat.reduceMul,reduceCtorEq,Bv]<;>exact .mk (.refl _) (.refl _) ⟨rfl,rfl⟩
theorem Gw {n:Int}{l:List Tr}{i:Nat}{x:Tr}(h:l[i]?=some x)(q:Bool×ML):Z3 n (l.take (i+1)) q=Z3 n [x] (Z3 n (l.take i) q):=by
 rw [List.take_add_one,h,Option.toList_some,UR]
theorem Ei {n:Int}{l:List Tr}{i:Nat}{q:Bool×ML}(h:(Z3 n (l.take i) q).1=false):Z3 n l q=Z3 n (l.take i) q:=by
 conv=>lhs;rw [← List.take_append_drop i l]
 rw [UR,QH h]
theorem MI (n:Int)(l:List Tr)(hl:∀ x∈l,Oz n x)(b4 b5 r:Nat)(q:ML)(hq:WE q)(σ:Store)(g4:σ.get b4=some (.cells [vi n]))(g5:σ.get b5=some (.cells [.val (.map (some r))]))(gr:σ.get r=some (O2 q))(n4:b4≠r)(n5:b5≠r) :
 Zj Tryz.prog 144 [.list .none 6 (cD l),.val (Ek b4 b5)] σ (fun x σ'=>x=.ret (vb (!(Z3 n l (true,q)).1))∧σ'=σ.set r (O2 (Z3 n l (true,q)).2)):=by
 have hok:∀ i,(∀ j,j<i→(!(Z3 n (l.take (j+1)) (true,q)).1)=false)→(Z3 n (l.take i) (true,q)).1=true:=by
  intro i h
  cases i with
  | zero=>rfl
  | succ i=>have:=h i (by omega);simpa using this
 have h:=T3 (Ek b4 b5) .none 6 (cD l) (fun i=>σ.set r (O2 (Z3 n (l.take i) (true,q)).2)) (fun i=>!(Z3 n (l.take (i+1)) (true,q)).1) (.inl rfl) (fun i e he=>dy l e (List.mem_of_getElem? he))
  (fun i e he hb=>by
   obtain ⟨x,hx,rfl⟩:=dc he
   have ht:=hok i hb
   have hstep:=Gw (n:=n) hx (true,q)
   simp only [Z3,ht,if_true] at hstep
   simp only [hstep]
   unfold Ek
   refine ZX.of ?_
   refine (Hf n x (hl x (List.mem_of_getElem? hx)) b4 b5 r (Z3 n (l.take i) (true,q)).2 (Tq _ _ (fun x _ q hq=>Ej n x q hq) hq) _ (by rw [Zb n4];exact g4) (by rw [Zb n5];exact g5) (Zd gr)).mono ?_
   rintro x σ' ⟨rfl,rfl⟩
   exact ⟨rfl,Zw⟩)
 have h0:σ.set r (O2 (Z3 n (l.take 0) (true,q)).2)=σ:=by simp only [List.take_zero,Z3];exact Yy gr
 simp only [h0] at h
 refine h.mono ?_
 rintro x σ' (⟨i,hi,hb,hn,rfl,rfl⟩ | ⟨hn,rfl,rfl⟩)
 ·have hf:(Z3 n (l.take (i+1)) (true,q)).1=false:=by simpa using hb
  have:=Ei hf
  rw [this,hf]
  exact ⟨rfl,rfl⟩
 ·rw [cu] at hn
  have ht:=hok l.length hn
  simp only [cu,List.take_length] at ht ⊢
  rw [ht]
  simp
def aw (n:Int)(l:List Tr)(a:Int)(q:ML):Bool×ML:=((Z3 n l (true,Ud q a true)).1,Ud (Z3 n l (true,Ud q a true)).2 a false)
theorem CC (n:Int)(k:Int)(p:List Pick)(a:Int)(y:List Tr)(c:List Cs)(e:List Tr)(q:ML)(l:List Tr)(hl:l=ZH (.mk k p a y c e)):frm n (.mk k p a y c e) q=if k=1 then (decide (a=0)&&decide (l.length=0)&&TX U2 p,q) else if k=2 then (if WZ n p a y c e q || Q0 c then (false,q) else aw n l a q) else (false,q):=by
 subst hl;exact Kr n k p a y c e q
theorem El (n:Int)(h0:0≤n)(t:Tr)(hB:trN t≤bigN):Oz n t:=by
 revert hB
 refine Xa (M:=fun t=>trN t≤bigN→Oz n t) (fun t ih hB=>?_) t
 intro q r σ gr hq
 have hpc:=TP t hB
 have hbig:bigN=1073741824:=rfl
 have hmem:∀ x∈ZH t,Oz n x:=fun x hx=>ih x (Yj hx) (by have:=Yj hx;omega)
 obtain ⟨l,hl⟩:∃ l,l=ZH t:=⟨_,rfl⟩
 rw [← hl] at hpc hmem
 obtain ⟨k,p,a,y,c,e⟩:=t
 have hfr:=CC n k p a y c e q l hl
 simp only [cm] at hpc ⊢
 obtain ⟨F,hF⟩:∃ F,F=frm n (.mk k p a y c e) q:=⟨_,rfl⟩
 rw [← hF] at hfr ⊢
 refine Zc [4,5] [] Tryz.func106 rfl (by kernel_rfl) ?_;rw [Tryz.ntmps106,Tryz.results106]
 refine ew ?_
 intro b4 hb4 b5 hb5
 have n4r:b4≠r:=fun e=>by rw [e] at hb4;rw [Zm hb4] at gr;cases gr
 have n5r:b5≠r:=fun e=>by rw [e] at hb5;rw [Zm hb5.2] at gr;cases gr
 have n54:b5≠b4:=Ne.symm hb5.1
 by_cases hk1:k=1
 ·have e1:=eq_true hk1
  rw [if_pos hk1] at hfr
  by_cases ha:a=0
  ·have e2:=eq_true ha
   try simp only [go_sem,Int.reduceEq,Int.reduceLT,Int.reduceLE,↓reduceIte,Nat.reduceEqDiff,Nat.reduceAdd,Nat.reduceSub,Nat.reduceLT,Nat.reduceLeDiff,Nat.reduceMul,reduceCtorEq,YC,e1,e2,decide_true]
   refine hpc.use ?_
   by_cases h3:((l.length:Nat):Int)=0
   ·have e3:=eq_true h3
    have h3':l.length=0:=by omega
    try simp only [go_sem,Int.reduceEq,Int.reduceLT,Int.reduceLE,↓reduceIte,Nat.reduceEqDiff,Nat.reduceAdd,Nat.reduceSub,Nat.reduceLT,Nat.reduceLeDiff,Nat.reduceMul,reduceCtorEq,YC,e1,e2,e3,decide_true,cu]
    refine (Kk _ U2 rfl UE p .none 2 (.inl rfl)).use ?_
    cases hb:TX U2 p
    ·refine ew ?_
     exact .mk (.refl _) (((Sub.refl _).skip _).skip _) ⟨by rw [hfr]<;>simp [hb],by rw [hfr];exact (Yy gr).symm⟩
    ·refine ew ?_
     exact .mk (.refl _) (((Sub.refl _).skip _).skip _) ⟨by rw [hfr]<;>simp [hb,ha,h3'],by rw [hfr];exact (Yy gr).symm⟩
   ·have e3:=eq_false h3
    have h3':¬ l.length=0:=by omega
    try simp only [go_sem,Int.reduceEq,Int.reduceLT,Int.reduceLE,↓reduceIte,Nat.reduceEqDiff,Nat.reduceAdd,Nat.reduceSub,Nat.reduceLT,Nat.reduceLeDiff,Nat.reduceMul,reduceCtorEq,YC,e1,e2,e3,decide_true,decide_false,cu]
    exact .mk (.refl _) (((Sub.refl _).skip _).skip _) ⟨by rw [hfr]<;>simp [h3'],by rw [hfr];exact (Yy gr).symm⟩
  ·have e2:=eq_false ha
   refine fQ ?_
   exact .mk (.refl _) (((Sub.refl _).skip _).skip _) ⟨by rw [hfr]<;>simp [ha],by rw [hfr];exact (Yy gr).symm⟩
 ·have e1:=eq_false hk1
  rw [if_neg hk1] at hfr
  by_cases hk2:k=2
  ·have e2:=eq_true hk2
   rw [if_pos hk2] at hfr
   have gl:=hq.get a
   by_cases c1:a<0
   ·have x1:=eq_true c1
    have hbad:WZ n p a y c e q=true:=by simp [WZ,c1]
    rw [hbad] at hfr
    simp only [Bool.true_or,if_true] at hfr
    try simp only [go_sem,Int.reduceEq,Int.reduceLT,Int.reduceLE,↓reduceIte,Nat.reduceEqDiff,Nat.reduceAdd,Nat.reduceSub,Nat.reduceLT,Nat.reduceLeDiff,Nat.reduceMul,reduceCtorEq,YC,e1,e2,x1,n54,decide_true,decide_false,cu,cF,cB]
    exact .mk (.refl _) (((Sub.refl _).skip _).skip _) ⟨by rw [hfr],by rw [hfr];exact (Yy gr).symm⟩
   ·have x1:=eq_false c1
    by_cases c2:n≤a
    ·have x2:=eq_true c2
     have hbad:WZ n p a y c e q=true:=by simp [WZ,c2]
     rw [hbad] at hfr
     simp only [Bool.true_or,if_true] at hfr
     try simp only [go_sem,Int.reduceEq,Int.reduceLT,Int.reduceLE,↓reduceIte,Nat.reduceEqDiff,Nat.reduceAdd,Nat.reduceSub,Nat.reduceLT,Nat.reduceLeDiff,Nat.reduceMul,reduceCtorEq,YC,e1,e2,x1,x2,n54,decide_true,decide_false,cu,cF,cB]
     exact .mk (.refl _) (((Sub.refl _).skip _).skip _) ⟨by rw [hfr],by rw [hfr];exact (Yy gr).symm⟩
    ·have x2:=eq_false c2
     try simp only [go_sem,Int.reduceEq,Int.reduceLT,Int.reduceLE,↓reduceIte,Nat.reduceEqDiff,Nat.reduceAdd,Nat.reduceSub,Nat.reduceLT,Nat.reduceLeDiff,Nat.reduceMul,reduceCtorEq,YC,e1,e2,x1,x2,n54,decide_true,decide_false]
     refine UV (z:=.bool false) YC.2.2.2.2.2.2.2.2.2.2.2.1 YC.2.2.2.2.2.2.2.2.2.2.2.2.1 YC.2.2.2.2.2.2.2.2.2.2.2.2.2.1 (by rw [Za n5r,Za n4r];exact gr) ?_
     rw [Mk,show cW (.bool false)=vb false from rfl,gl]
     cases c3:Xv q a with
     | true =>
       have hbad:WZ n p a y c e q=true:=by simp [WZ,c3]
       rw [hbad] at hfr
       simp only [Bool.true_or,if_true] at hfr
       try simp only [go_sem,Int.reduceEq,Int.reduceLT,Int.reduceLE,↓reduceIte,Nat.reduceEqDiff,Nat.reduceAdd,Nat.reduceSub,Nat.reduceLT,Nat.reduceLeDiff,Nat.reduceMul,reduceCtorEq,YC,e1,n54,decide_true,decide_false,cu,cF,cB]
       exact .mk (.refl _) (((Sub.refl _).skip _).skip _) ⟨by rw [hfr],by rw [hfr];exact (Yy gr).symm⟩
     | false =>
       by_cases c4:y.length=1
       ·have x4:(((y.length:Nat):Int)=1)=True:=eq_true (by omega)
        by_cases c5:e.length=1
        ·have x5:(((e.length:Nat):Int)=1)=True:=eq_true (by omega)
         by_cases c6:c.length=0
         ·have x6:(((c.length:Nat):Int)=0)=True:=eq_true (by omega)
          have hbad:WZ n p a y c e q=true:=by simp [WZ,c6]
          rw [hbad] at hfr
          simp only [Bool.true_or,if_true] at hfr
          try simp only [go_sem,Int.reduceEq,Int.reduceLT,Int.reduceLE,↓reduceIte,Nat.reduceEqDiff,Nat.reduceAdd,Nat.reduceSub,Nat.reduceLT,Nat.reduceLeDiff,Nat.reduceMul,reduceCtorEq,YC,x4,x5,x6,n54,decide_true,decide_false,cu,cF,cB]
          exact .mk (.refl _) (((Sub.refl _).skip _).skip _) ⟨by rw [hfr],by rw [hfr];exact (Yy gr).symm⟩
         ·have x6:(((c.length:Nat):Int)=0)=False:=eq_false (by omega)
          by_cases c7:0<p.length
          ·have x7:((0:Int)<((p.length:Nat):Int))=True:=eq_true (by omega)
           have hbad:WZ n p a y c e q=true:=by simp [WZ,c7]
           rw [hbad] at hfr
           simp only [Bool.true_or,if_true] at hfr
           refine fC ?_
           exact .mk (.refl _) (((Sub.refl _).skip _).skip _) ⟨by rw [hfr],by rw [hfr];exact (Yy gr).symm⟩
          ·have x7:((0:Int)<((p.length:Nat):Int))=False:=eq_false (by omega)
           have hgood:WZ n p a y c e q=false:=by simp [WZ,c1,c2,c3,c4,c5,c6,c7]
           rw [hgood,Bool.false_or] at hfr
           refine fC ?_
           obtain ⟨c0,cr,rfl⟩:=List.exists_cons_of_ne_nil (show c≠[] from fun h=>c6 (by rw [h];rfl))
           refine ⟨by simp,fun d hd=>?_⟩
           rw [show Int.toNat 0=0 from rfl] at hd
           have hd2:d=c0.emb:=by simpa [cP] using hd.symm
           subst hd2
           have hisc:=Kl _ CJ rfl Hg (c0::cr) .none 7 (.inl rfl)
           obtain ⟨s0,t0⟩:=c0
           obtain ⟨k0,p0,a0,y0,cc0,e0⟩:=t0
           try simp only [go_sem,Int.reduceEq,Int.reduceLT,Int.reduceLE,↓reduceIte,Nat.reduceEqDiff,Nat.reduceAdd,Nat.reduceSub,Nat.reduceLT,Nat.reduceLeDiff,Nat.reduceMul,reduceCtorEq,YC,di]
           refine ⟨fun q1=>?_,fun q1=>?_⟩
           ·refine hisc.use ?_
            cases hb:TX CJ (.mk s0 (.mk k0 p0 a0 y0 cc0 e0)::cr) with
            | false =>
              have hbc:Q0 (.mk s0 (.mk k0 p0 a0 y0 cc0 e0)::cr)=true:=by simp [Q0,hb]
              rw [hbc,if_pos rfl] at hfr
              refine eU ?_
              exact .mk (.refl _) (((Sub.refl _).skip _).skip _) ⟨by rw [hfr]<;>simp [hb],by rw [hfr];exact (Yy gr).symm⟩
            | true =>
              have hbc:Q0 (.mk s0 (.mk k0 p0 a0 y0 cc0 e0)::cr)=false:=by simp [Q0,hb,Cs.name,q1]
              rw [hbc,if_neg (by decide)] at hfr
              refine eU ?_
              refine Y3 (l:=q.1) (c:=q.2) YC.2.2.2.2.2.2.2.2.2.2.2.1 YC.2.2.2.2.2.2.2.2.2.2.2.2.1 (by rw [Za n5r,Za n4r];exact gr) ?_
              rw [Zk n5r,Zk n4r]
              have hmo:AObj.map (ZM keI (VL q.1 a (.val (.bool true)) q.2)) (Uh q.1 a q.2)=O2 (Ud q a true):=rfl
              rw [hmo]
              refine ew ?_
              refine hpc.use ?_
              refine ew ?_
              refine (MI n l hmem b4 b5 r (Ud q a true) (hq.put a true) _ (by rw [Za n54,Zi]) (by rw [Zi]) (by rw [Za n5r,Za n4r,Zd gr]) n4r n5r).mono ?_
              rintro x σ' ⟨rfl,rfl⟩
              rw [Zk n5r,Zk n4r,Zw]
              unfold aw at hfr
              obtain ⟨X,hX⟩:∃ X,X=Z3 n l (true,Ud q a true):=⟨_,rfl⟩
              rw [← hX] at hfr ⊢
              obtain ⟨X1,X2⟩:=X
              cases X1<;>try simp only [go_sem,Int.reduceEq,Int.reduceLT,Int.reduceLE,↓reduceIte,Nat.reduceEqDiff,Nat.reduceAdd,Nat.reduceSub,Nat.reduceLT,Nat.reduceLeDiff,Nat.reduceMul,reduceCtorEq,YC,Bool.not_false,Bool.not_true]
              ·refine Y3 (l:=X2.1) (c:=X2.2) YC.2.2.2.2.2.2.2.2.2.2.2.1 YC.2.2.2.2.2.2.2.2.2.2.2.2.1 (by rw [Za n5r,Za n4r,Zd gr];rfl) ?_
               rw [Zk n5r,Zk n4r,Zw]
               refine ew ?_
               exact .mk (.refl _) (((Sub.refl _).skip _).skip _) ⟨by rw [hfr],by rw [hfr];rfl⟩
              ·refine Y3 (l:=X2.1) (c:=X2.2) YC.2.2.2.2.2.2.2.2.2.2.2.1 YC.2.2.2.2.2.2.2.2.2.2.2.2.1 (by rw [Za n5r,Za n4r,Zd gr];rfl) ?_
               rw [Zk n5r,Zk n4r,Zw]
               refine ew ?_
               exact .mk (.refl _) (((Sub.refl _).skip _).skip _) ⟨by rw [hfr],by rw [hfr];rfl⟩
           ·have hbc:Q0 (.mk s0 (.mk k0 p0 a0 y0 cc0 e0)::cr)=true:=by simp [Q0,Cs.name,q1,ZS]
            rw [hbc,if_pos rfl] at hfr
            refine eU ?_
            exact .mk (.refl _) (((Sub.refl _).skip _).skip _) ⟨by rw [hfr]<;>simp [hb],by rw [hfr];exact (Yy gr).symm⟩
        ·have x5:(((e.length:Nat):Int)=1)=False:=eq_false (by omega)
         have hbad:WZ n p a y c e q=true:=by simp [WZ,c5]
         rw [hbad] at hfr
         simp only [Bool.true_or,if_true] at hfr
         try simp only [go_sem,Int.reduceEq,Int.reduceLT,Int.reduceLE,↓reduceIte,Nat.reduceEqDiff,Nat.reduceAdd,Nat.reduceSub,Nat.reduceLT,Nat.reduceLeDiff,Nat.reduceMul,reduceCtorEq,YC,x4,x5,n54,decide_true,decide_false,cu,cF,cB]
         exact .mk (.refl _) (((Sub.refl _).skip _).skip _) ⟨by rw [hfr],by rw [hfr];exact (Yy gr).symm⟩
       ·have x4:(((y.length:Nat):Int)=1)=False:=eq_false (by omega)
        have hbad:WZ n p a y c e q=true:=by simp [WZ,c4]
        rw [hbad] at hfr
        simp only [Bool.true_or,if_true] at hfr
        try simp only [go_sem,Int.reduceEq,Int.reduceLT,Int.reduceLE,↓reduceIte,Nat.reduceEqDiff,Nat.reduceAdd,Nat.reduceSub,Nat.reduceLT,Nat.reduceLeDiff,Nat.reduceMul,reduceCtorEq,YC,x4,n54,decide_true,decide_false,cu,cF,cB]
        exact .mk (.refl _) (((Sub.refl _).skip _).skip _) ⟨by rw [hfr],by rw [hfr];exact (Yy gr).symm⟩
  ·have e2:=eq_false hk2
   rw [if_neg hk2] at hfr
   refine fQ ?_
   exact .mk (.refl _) (((Sub.refl _).skip _).skip _) ⟨by rw [hfr]<;>simp [hk2],by rw [hfr];exact (Yy gr).symm⟩
theorem Qv (n:Int)(h0:0≤n)(t:Tr)(hB:trN t≤bigN):Pur Tryz.prog 61 [.agg t.emb,vi n] (vb (Xe t n)):=by
 intro σ
 have hs:=GD t 4000 hB (by omega) (by omega)
 have hf:=El n h0 t hB
 unfold Xe
 obtain ⟨S,hS⟩:∃ S,S=WD t 4000:=⟨_,rfl⟩
 rw [← hS] at hs ⊢
 obtain ⟨F,hF⟩:∃ F,F=frm n t ([],0):=⟨_,rfl⟩
 unfold Oz at hf
 have hf':=hf ([],0)
 rw [← hF] at hf' ⊢
 clear hf
 obtain ⟨k,p,a,y,c,e⟩:=t
 simp only [cm] at hs hf' ⊢
 refine Zc [] [] Tryz.func61 rfl (by kernel_rfl) ?_;rw [Tryz.ntmps61,Tryz.results61]
 refine gZ ?_
 refine hs.use ?_
 by_cases h1:S≤4000
 ·have e1:=eq_true h1
  try simp only [go_sem,Int.reduceEq,Int.reduceLT,Int.reduceLE,↓reduceIte,Nat.reduceEqDiff,Nat.reduceAdd,Nat.reduceSub,Nat.reduceLT,Nat.reduceLeDiff,Nat.reduceMul,reduceCtorEq,H8,e1,decide_true]
  intro b hb
  refine gZ ?_
  refine (hf' b _ (Zi _ _ _) (fun x v h=>by simp [XU] at h)).mono ?_
  rintro x σ' ⟨rfl,rfl⟩
  rw [Z6]
  obtain ⟨F1,F2⟩:=F
  cases F1<;>try simp only [go_sem,Int.reduceEq,Int.reduceLT,Int.reduceLE,↓reduceIte,Nat.reduceEqDiff,Nat.reduceAdd,Nat.reduceSub,Nat.reduceLT,Nat.reduceLeDiff,Nat.reduceMul,reduceCtorEq,H8]<;>exact ZE (.refl _) ((Sub.refl _).skip _)
 ·have e1:=eq_false h1
  try simp only [go_sem,Int.reduceEq,Int.reduceLT,Int.reduceLE,↓reduceIte,Nat.reduceEqDiff,Nat.reduceAdd,Nat.reduceSub,Nat.reduceLT,Nat.reduceLeDiff,Nat.reduceMul,reduceCtorEq,H8,e1,decide_false]
  exact ZC (by simp)
end Go.Vx
end
section
set_option maxRecDepth 100000
namespace Go.Vx
open Go.Proofs
theorem Gk:(Zh Tryz.prog 25=some 2)∧(Ze Tryz.prog 25=some true):=by
 refine ⟨?_,?_⟩<;>first | trivial | kernel_rfl
theorem RP:(Zh Tryz.prog 25=some 2)∧(Ze Tryz.prog 25=some true)∧(ZA Tryz.prog 23=some 3)∧(Zh Tryz.prog 3=some 1)∧(Zl Tryz.prog 3=some (.int .i64 0))∧(Tryz.prog.underlying 64=some (.slice 9))∧(ZQ Tryz.prog 3=some 8):=by
 refine ⟨?_,?_,?_,?_,?_,?_,?_⟩<;>first | trivial | kernel_rfl
theorem OS (f:Flat)(l:List Pick)(out:List Row)(n:Nat)(q:List Row×Nat)(h:ZY f l out n=some q)(hout:∀ r∈out,r.classes.length=n)(hn:n≤8∨out=[]):(∀ r∈q.1,r.classes.length=q.2)∧(q.2≤8∨q.1=[]):=by
 induction l generalizing out n with
 | nil=>simp only [ZY,Option.some.injEq] at h;subst h;exact ⟨hout,hn⟩
 | cons x r ih =>
   simp only [ZY] at h
   cases hc:Wa f x with
   | none=>rw [hc] at h;cases h
   | some c =>
     rw [hc] at h
     simp only at h
     split at h
     ·cases h
     ·rename_i hno
      refine ih _ _ h (fun r hr=>?_) (.inl (by omega))
      rcases List.mem_append.1 hr with hr | hr
      ·have:=hout r hr
       have hlen:0<out.length:=List.length_pos_of_mem hr
       omega
      ·simp at hr;subst hr;simp
theorem WU (f:Flat)(pred:Str)(h:(Z1 f pred).2.2=0):U4 f=0∧(∀ r∈(Z1 f pred).1,r.classes.length=(Z1 f pred).2.1)∧(Z1 f pred).2.1≤8∧(Z1 f pred).1≠[]∧(Z1 f pred).1.map Row.pick=YI f pred:=by
 unfold Z1 at h ⊢
 by_cases hc:U4 f≠0
 ·rw [if_pos hc] at h;exact absurd h hc
 ·rw [if_neg hc] at h ⊢
  cases hl:ZY f (YI f pred) [] 0 with
  | none=>rw [hl] at h;simp at h
  | some q =>
    obtain ⟨out,n⟩:=q
    rw [hl] at h
    simp only at h ⊢
    by_cases ho:out=[]
    ·rw [if_pos ho] at h;simp at h
    ·rw [if_neg ho]
     obtain ⟨a1,a2⟩:=OS f _ _ _ _ hl (by simp) (.inr rfl)
     refine ⟨by simpa using hc,a1,a2.resolve_right ho,ho,?_⟩
     have:=TL f _ _ _ _ hl
     simpa using this
theorem R9 (f:Flat)(pred:Str):(Z1 f pred).1.length≤(YI f pred).length:=by
 by_cases h:(Z1 f pred).2.2=0
 ·have:=(WU f pred h).2.2.2.2
  rw [← this];simp
 ·have:(Z1 f pred).1=[]:=by
   unfold Z1 at h ⊢
   split
   ·rfl
   ·rename_i hc
    rw [if_neg hc] at h
    cases hl:ZY f (YI f pred) [] 0 with
    | none=>rfl
    | some q =>
      rw [hl] at h
      simp only at h ⊢
      split
      ·rfl
      ·rename_i ho;rw [if_neg ho] at h;exact absurd rfl h
  rw [this];simp
def Xf (f:Flat)(pred:Str):List Pick×Nat×Int:=if (Z1 f pred).2.2≠0 then ([],0,(Z1 f pred).2.2) else ((Z1 f pred).1.map Row.pick,(Z1 f pred).2.1,0)
theorem Ov (f:Flat)(pred:Str)(hh:(YI f pred).length≤137438953472):Pur Tryz.prog 16 [.agg f.emb,vs pred] (.tup [.list .none 2 (cI (Xf f pred).1),vi ((Xf f pred).2.1:Nat),vi (Xf f pred).2.2]):=by
 intro σ
 have h:=OR f pred hh
 have hp:=OX (Z1 f pred).1 .none 3 (.inl rfl)
 unfold Xf
 obtain ⟨⟨rs,n,e⟩,hr⟩:∃ q,q=Z1 f pred:=⟨_,rfl⟩
 rw [← hr] at h hp ⊢
 simp only at h hp ⊢
 simp only [Flat.emb] at h ⊢
 refine Zc [] [] Tryz.func16 rfl (by kernel_rfl) ?_;rw [Tryz.ntmps16,Tryz.results16]
 try simp only [go_sem,seval,Gk]
 refine h.use ?_
 try simp only [go_sem,seval,Gk]
 refine ⟨fun h1=>?_,fun h1=>?_⟩
 ·rw [if_pos (by simpa using h1)]
  try simp only [go_sem,seval,Gk]
  exact ZE (.tup3 (.nilA _ _ _) (.refl _) (.refl _)) (.refl _)
 ·have h1':e=0:=by simpa using h1
  subst h1'
  rw [if_neg (by simp)]
  try simp only [go_sem,seval,Gk]
  refine hp.use ?_
  try simp only [go_sem,seval,Gk]
  exact ZE (.refl _) (.refl _)
def VK (l:List Row)(n:Nat):List Int:=((List.range n).filter fun a=>!decide (YN l a=[])).map fun a:Nat=>(a:Int)
def Rw (f:Flat)(pred:Str):List Int×Int:=if (Z1 f pred).2.2≠0 then ([],(Z1 f pred).2.2) else (VK (Z1 f pred).1 (Z1 f pred).2.1,0)
theorem OC (l:List Row)(n:Nat):VK l (n+1)=VK l n++(if YN l n=[] then [] else [(n:Int)]):=by
 unfold VK
 rw [List.range_succ,List.filter_append,List.map_append]
 congr 1
 by_cases h:YN l n=[]<;>simp [h]
theorem NP (l:List Row)(n:Nat):(VK l n).length≤n:=by
 unfold VK;rw [List.length_map];exact Nat.le_trans (List.length_filter_le _ _) (by simp)
theorem H2 (f:Flat)(pred:Str)(hh:(YI f pred).length≤137438953472):Pur Tryz.prog 26 [.agg f.emb,vs pred] (.tup [.list .none 1 (Yz (Rw f pred).1),vi (Rw f pred).2]):=by
 intro σ
 refine Zj.nodup (by kernel_rfl) (fun hnd=>?_)
 have h:=OR f pred hh
 have hf:=WU f pred
 have hlen:=R9 f pred
 unfold Rw
 obtain ⟨⟨rs,n,e⟩,hr⟩:∃ q,q=Z1 f pred:=⟨_,rfl⟩
 rw [← hr] at h hf hlen ⊢
 simp only at h hf hlen ⊢
 simp only [Flat.emb] at h ⊢
 refine Zc [] [] Tryz.func26 rfl (by kernel_rfl) ?_;rw [Tryz.ntmps26,Tryz.results26]
 refine iP ?_
 refine h.use ?_
 refine iP ?_
 refine ⟨fun h1=>?_,fun h1=>?_⟩
 ·rw [if_pos (by simpa using h1)]
  refine iP ?_
  exact ZE (.tup2 (.nilA _ _ _) (.refl _)) (.refl _)
 ·have h1':e=0:=by simpa using h1
  subst h1'
  rw [if_neg (by simp)]
  obtain ⟨_,f1,f2,f3,f4⟩:=hf rfl
  refine iP ?_
  refine Zv (mu:=[]) (dr:=[]) [9,10,22,23,24,25,26,27,28,29,30,31,32,33,34] (fun x:Nat×AV×Store=>[(22,vi x.1),(9,x.2.1)]) (fun x=>x.2.2) (fun x=>x.1≤n∧LV σ x.2.2 x.2.1 1 (Yz (VK rs x.1))∧Has σ x.2.2) (fun x=>n-x.1) (0,.list .full 0 [],σ) (by kernel_rfl) ⟨by omega,LV.nil _ _ _,.refl _⟩ ⟨.refl _,.refl _,trivial⟩ (.refl _) ?_
  rintro ⟨i,v,S⟩ ⟨i1,i2,i3⟩
  simp only at i1 i2 i3
  refine iP ?_
  refine ⟨fun h2=>?_,fun h2=>?_⟩
  ·refine iP ?_
   refine (Sp rs i (by omega) (fun r hr=>by rw [f1 r hr];omega) .none 3 (.inl rfl)).use ?_
   refine iP ?_
   have hs:=OC rs i
   have hwl:=NP rs i
   have hw:IntKind.i64.wrap ((i:Int)+1)=((i+1:Nat):Int):=Zp (by omega) (by omega)
   by_cases hn:YN rs i=[]
   ·rw [if_pos hn,List.append_nil] at hs
    have h0:(0<(((Tk (YN rs i)).length:Nat):Int))=False:=by rw [hn];simp
    try simp only [go_sem,seval,RP,h0,decide_false]
    rw [hw]
    exact .mk (i+1,v,S) ⟨by simp only;omega,by simp only [hs];exact i2,i3⟩ (by simp only;omega) ⟨.refl _,.refl _,trivial⟩ (by repeat first | exact Zf.turn _ rfl | refine Zf.put rfl ?_) (.refl _)
   ·rw [if_neg hn] at hs
    have h0:(0<(((Tk (YN rs i)).length:Nat):Int))=True:=by
     have:(YN rs i).length≠0:=fun h=>hn (List.length_eq_zero_iff.1 h)
     simp;omega
    try simp only [go_sem,seval,RP,h0,decide_true,i2.one,i2.cells]
    refine ⟨rfl,i2.append rfl (by decide) (by simp [Yz];omega) rfl (by simp) i3 (fun v' S' hv' hkp hS'=>?_)⟩
    try simp only [go_sem,seval,RP,hv'.one,hv'.cells]
    rw [hw]
    exact .mk (i+1,v',S') ⟨by simp only;omega,by simp only [hs,Yz,List.map_append];exact hv',hS'⟩ (by simp only;omega) ⟨.refl _,.refl _,trivial⟩ (by repeat first | exact Zf.turn _ rfl | refine Zf.put rfl ?_) (.refl _)
  ·have hin:i=n:=by omega
   subst hin
   try simp only [go_sem,seval,RP,i2.one,i2.cells]
   exact .mk (.tup2 i2.wk (.refl _)) (i3.sub hnd) ⟨rfl,rfl⟩
end Go.Vx
end
