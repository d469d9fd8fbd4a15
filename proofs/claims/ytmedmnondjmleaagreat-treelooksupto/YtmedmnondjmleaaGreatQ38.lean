/- Part Q38 of the proof of treeLooksProved: the walk of the program on abstract values, and the plain law. -/
import Derived.Test.YtmedmnondjmleaaGreatQ37
set_option linter.unusedVariables false
set_option linter.unusedSimpArgs false
section
set_option maxRecDepth 100000
namespace Go.Vx
open Go.Proofs
theorem OH:(ZA Tryz.prog 23=some 3)∧(Zh Tryz.prog 3=some 1)∧(Ze Tryz.prog 3=some false)∧(Tryz.prog.underlying 23=some (.slice 3)):=by
 refine ⟨?_,?_,?_,?_⟩<;>first | trivial | kernel_rfl
theorem CG (t:Tr):∀ (m:Int) (σ:Store),Zj Tryz.prog 49 [.agg t.emb,vi m] σ (NL σ):=by
 refine Xa (M:=fun t=>∀ (m:Int) (σ:Store),Zj Tryz.prog 49 [.agg t.emb,vi m] σ (NL σ)) (fun t ih m σ=>?_) t
 refine Zj.ok (by kernel_rfl) (fun hok=>?_)
 have hmem:∀ x∈ZH t,trN x<trN t:=fun x hx=>Yj hx
 obtain ⟨k,p,a,y,c,e⟩:=t
 have hy:=((hok _ List.mem_cons_self).agg (c:=.list .none 6 (cD y)) (by simp [cm])).len
 have hc:=((hok _ List.mem_cons_self).agg (c:=.list .none 7 (cP c)) (by simp [cm])).len
 have he:=((hok _ List.mem_cons_self).agg (c:=.list .none 6 (cD e)) (by simp [cm])).len
 rw [cu] at hy he
 rw [cF] at hc
 clear hok
 have hmy:=fun q (hq:q∈y)=>hmem q (by simp only [ZH,List.mem_append];exact .inl (.inl hq))
 have hme:=fun q (hq:q∈e)=>hmem q (by simp only [ZH,List.mem_append];exact .inl (.inr hq))
 have hmc:=fun (q:Cs) (hq:q∈c)=>hmem q.tree (by simp only [ZH,List.mem_append,List.mem_map];exact .inr ⟨q,hq,rfl⟩)
 simp only [cm]
 refine Zc [] [] Tryz.func49 rfl (by kernel_rfl) ?_;rw [Tryz.ntmps49,Tryz.results49]
 refine fw ?_
 refine Zv (mu:=[]) (dr:=[]) [5,6,9,10,11,12,13,14,15,16,17,18,19,20,21,22,23,24,25,26,27,28,29,30,31] (fun x:Nat×Int=>[(6,vi x.1),(5,vi x.2)]) (fun _=>σ) (fun x=>x.1≤y.length) (fun x=>y.length-x.1) (0,1) (by kernel_rfl) (by simp) ⟨.refl _,.refl _,trivial⟩ (.refl _) ?_
 rintro ⟨i,x⟩ hi
 simp only at hi
 by_cases p1:i<y.length
 ·have e1:(((i:Nat):Int)<((y.length:Nat):Int))=True:=eq_true (by omega)
  by_cases p2:x≤m
  ·have e2:=eq_true p2
   refine ic ?_
   refine ⟨by omega,fun c hc=>?_⟩
   rw [Int.toNat_natCast] at hc
   obtain ⟨q,hq,rfl⟩:=dc hc
   have ihq:=ih q (hmy q (List.mem_of_getElem? hq)) (IntKind.i64.wrap (m-x)) σ
   obtain ⟨k1,p1,a1,y1,c1,e1⟩:=q
   simp only [cm] at ihq ⊢
   refine fw ?_
   refine ihq.mono ?_
   rintro r _ ⟨⟨z,rfl⟩,rfl⟩
   refine fw ?_
   rw [show IntKind.i64.wrap ((i:Int)+1)=((i+1:Nat):Int) from Zp (by omega) (by omega)]
   exact .mk (i+1,_) (by simp only;omega) (by simp only;omega) ⟨.refl _,.refl _,trivial⟩ (by repeat first | exact Zf.turn _ rfl | refine Zf.put rfl ?_) (.refl _)
  ·have e2:=eq_false p2
   refine fJ ?_
   refine Zv (mu:=[]) (dr:=[]) [5,7,32,33,34,35,36,37,38,39,40,41,42,43,44,45,46,47,48,49,50,51,52,53,54,55] (fun x:Nat×Int=>[(7,vi x.1),(5,vi x.2)]) (fun _=>σ) (fun x=>x.1≤c.length) (fun x=>c.length-x.1) (0,_) (by kernel_rfl) (by simp) ⟨.refl _,.refl _,trivial⟩ (.refl _) ?_
   rintro ⟨i2,x2⟩ hi2
   simp only at hi2
   by_cases p1:i2<c.length
   ·have e1:(((i2:Nat):Int)<((c.length:Nat):Int))=True:=eq_true (by omega)
    by_cases p2:x2≤m
    ·have e2:=eq_true p2
     try simp only [go_sem,seval,Xt,cF,e1,e2,decide_true]
     refine ⟨by omega,fun d hd=>?_⟩
     rw [Int.toNat_natCast] at hd
     obtain ⟨q,hq,rfl⟩:=da hd
     have ihq:=ih q.tree (hmc q (List.mem_of_getElem? hq)) (IntKind.i64.wrap (m-x2)) σ
     obtain ⟨s1,k1,p1,a1,y1,c1,e1⟩:=q
     simp only [di,Cs.tree,cm] at ihq ⊢
     refine fw ?_
     refine ihq.mono ?_
     rintro r _ ⟨⟨z,rfl⟩,rfl⟩
     refine fw ?_
     rw [show IntKind.i64.wrap ((i2:Int)+1)=((i2+1:Nat):Int) from Zp (by omega) (by omega)]
     exact .mk (i2+1,_) (by simp only;omega) (by simp only;omega) ⟨.refl _,.refl _,trivial⟩ (by repeat first | exact Zf.turn _ rfl | refine Zf.put rfl ?_) (.refl _)
    ·have e2:=eq_false p2
     try simp only [go_sem,seval,Xt,cF,e1,e2,decide_true,decide_false]
     refine Zv (mu:=[]) (dr:=[]) [5,8,56,57,58,59,60,61,62,63,64,65,66,67,68,69,70,71,72,73,74,75,76,77,78] (fun x:Nat×Int=>[(8,vi x.1),(5,vi x.2)]) (fun _=>σ) (fun x=>x.1≤e.length) (fun x=>e.length-x.1) (0,_) (by kernel_rfl) (by simp) ⟨.refl _,.refl _,trivial⟩ (.refl _) ?_
     rintro ⟨i3,x3⟩ hi3
     simp only at hi3
     by_cases p1:i3<e.length
     ·have e1:(((i3:Nat):Int)<((e.length:Nat):Int))=True:=eq_true (by omega)
      by_cases p2:x3≤m
      ·have e2:=eq_true p2
       refine ic ?_
       refine ⟨by omega,fun c hc=>?_⟩
       rw [Int.toNat_natCast] at hc
       obtain ⟨q,hq,rfl⟩:=dc hc
       have ihq:=ih q (hme q (List.mem_of_getElem? hq)) (IntKind.i64.wrap (m-x3)) σ
       obtain ⟨k1,p1,a1,y1,c1,e1⟩:=q
       simp only [cm] at ihq ⊢
       refine fw ?_
       refine ihq.mono ?_
       rintro r _ ⟨⟨z,rfl⟩,rfl⟩
       refine fw ?_
       rw [show IntKind.i64.wrap ((i3:Int)+1)=((i3+1:Nat):Int) from Zp (by omega) (by omega)]
       exact .mk (i3+1,_) (by simp only;omega) (by simp only;omega) ⟨.refl _,.refl _,trivial⟩ (by repeat first | exact Zf.turn _ rfl | refine Zf.put rfl ?_) (.refl _)
      ·have e2:=eq_false p2
       refine fJ ?_
       exact eF
     ·have e1:(((i3:Nat):Int)<((e.length:Nat):Int))=False:=eq_false (by omega)
      refine fR ?_
      exact eF
   ·have e1:(((i2:Nat):Int)<((c.length:Nat):Int))=False:=eq_false (by omega)
    try simp only [go_sem,seval,Xt,cF,e1,decide_true,decide_false]
    refine Zv (mu:=[]) (dr:=[]) [5,8,56,57,58,59,60,61,62,63,64,65,66,67,68,69,70,71,72,73,74,75,76,77,78] (fun x:Nat×Int=>[(8,vi x.1),(5,vi x.2)]) (fun _=>σ) (fun x=>x.1≤e.length) (fun x=>e.length-x.1) (0,_) (by kernel_rfl) (by simp) ⟨.refl _,.refl _,trivial⟩ (.refl _) ?_
    rintro ⟨i3,x3⟩ hi3
    simp only at hi3
    by_cases p1:i3<e.length
    ·have e1:(((i3:Nat):Int)<((e.length:Nat):Int))=True:=eq_true (by omega)
     by_cases p2:x3≤m
     ·have e2:=eq_true p2
      refine ic ?_
      refine ⟨by omega,fun c hc=>?_⟩
      rw [Int.toNat_natCast] at hc
      obtain ⟨q,hq,rfl⟩:=dc hc
      have ihq:=ih q (hme q (List.mem_of_getElem? hq)) (IntKind.i64.wrap (m-x3)) σ
      obtain ⟨k1,p1,a1,y1,c1,e1⟩:=q
      simp only [cm] at ihq ⊢
      refine fw ?_
      refine ihq.mono ?_
      rintro r _ ⟨⟨z,rfl⟩,rfl⟩
      refine fw ?_
      rw [show IntKind.i64.wrap ((i3:Int)+1)=((i3+1:Nat):Int) from Zp (by omega) (by omega)]
      exact .mk (i3+1,_) (by simp only;omega) (by simp only;omega) ⟨.refl _,.refl _,trivial⟩ (by repeat first | exact Zf.turn _ rfl | refine Zf.put rfl ?_) (.refl _)
     ·have e2:=eq_false p2
      refine fJ ?_
      exact eF
    ·have e1:(((i3:Nat):Int)<((e.length:Nat):Int))=False:=eq_false (by omega)
     refine fR ?_
     exact eF
 ·have e1:(((i:Nat):Int)<((y.length:Nat):Int))=False:=eq_false (by omega)
  refine fR ?_
  refine Zv (mu:=[]) (dr:=[]) [5,7,32,33,34,35,36,37,38,39,40,41,42,43,44,45,46,47,48,49,50,51,52,53,54,55] (fun x:Nat×Int=>[(7,vi x.1),(5,vi x.2)]) (fun _=>σ) (fun x=>x.1≤c.length) (fun x=>c.length-x.1) (0,_) (by kernel_rfl) (by simp) ⟨.refl _,.refl _,trivial⟩ (.refl _) ?_
  rintro ⟨i2,x2⟩ hi2
  simp only at hi2
  by_cases p1:i2<c.length
  ·have e1:(((i2:Nat):Int)<((c.length:Nat):Int))=True:=eq_true (by omega)
   by_cases p2:x2≤m
   ·have e2:=eq_true p2
    try simp only [go_sem,seval,Xt,cF,e1,e2,decide_true]
    refine ⟨by omega,fun d hd=>?_⟩
    rw [Int.toNat_natCast] at hd
    obtain ⟨q,hq,rfl⟩:=da hd
    have ihq:=ih q.tree (hmc q (List.mem_of_getElem? hq)) (IntKind.i64.wrap (m-x2)) σ
    obtain ⟨s1,k1,p1,a1,y1,c1,e1⟩:=q
    simp only [di,Cs.tree,cm] at ihq ⊢
    refine fw ?_
    refine ihq.mono ?_
    rintro r _ ⟨⟨z,rfl⟩,rfl⟩
    refine fw ?_
    rw [show IntKind.i64.wrap ((i2:Int)+1)=((i2+1:Nat):Int) from Zp (by omega) (by omega)]
    exact .mk (i2+1,_) (by simp only;omega) (by simp only;omega) ⟨.refl _,.refl _,trivial⟩ (by repeat first | exact Zf.turn _ rfl | refine Zf.put rfl ?_) (.refl _)
   ·have e2:=eq_false p2
    try simp only [go_sem,seval,Xt,cF,e1,e2,decide_true,decide_false]
    refine Zv (mu:=[]) (dr:=[]) [5,8,56,57,58,59,60,61,62,63,64,65,66,67,68,69,70,71,72,73,74,75,76,77,78] (fun x:Nat×Int=>[(8,vi x.1),(5,vi x.2)]) (fun _=>σ) (fun x=>x.1≤e.length) (fun x=>e.length-x.1) (0,_) (by kernel_rfl) (by simp) ⟨.refl _,.refl _,trivial⟩ (.refl _) ?_
    rintro ⟨i3,x3⟩ hi3
    simp only at hi3
    by_cases p1:i3<e.length
    ·have e1:(((i3:Nat):Int)<((e.length:Nat):Int))=True:=eq_true (by omega)
     by_cases p2:x3≤m
     ·have e2:=eq_true p2
      refine ic ?_
      refine ⟨by omega,fun c hc=>?_⟩
      rw [Int.toNat_natCast] at hc
      obtain ⟨q,hq,rfl⟩:=dc hc
      have ihq:=ih q (hme q (List.mem_of_getElem? hq)) (IntKind.i64.wrap (m-x3)) σ
      obtain ⟨k1,p1,a1,y1,c1,e1⟩:=q
      simp only [cm] at ihq ⊢
      refine fw ?_
      refine ihq.mono ?_
      rintro r _ ⟨⟨z,rfl⟩,rfl⟩
      refine fw ?_
      rw [show IntKind.i64.wrap ((i3:Int)+1)=((i3+1:Nat):Int) from Zp (by omega) (by omega)]
      exact .mk (i3+1,_) (by simp only;omega) (by simp only;omega) ⟨.refl _,.refl _,trivial⟩ (by repeat first | exact Zf.turn _ rfl | refine Zf.put rfl ?_) (.refl _)
     ·have e2:=eq_false p2
      refine fJ ?_
      exact eF
    ·have e1:(((i3:Nat):Int)<((e.length:Nat):Int))=False:=eq_false (by omega)
     refine fR ?_
     exact eF
  ·have e1:(((i2:Nat):Int)<((c.length:Nat):Int))=False:=eq_false (by omega)
   try simp only [go_sem,seval,Xt,cF,e1,decide_true,decide_false]
   refine Zv (mu:=[]) (dr:=[]) [5,8,56,57,58,59,60,61,62,63,64,65,66,67,68,69,70,71,72,73,74,75,76,77,78] (fun x:Nat×Int=>[(8,vi x.1),(5,vi x.2)]) (fun _=>σ) (fun x=>x.1≤e.length) (fun x=>e.length-x.1) (0,_) (by kernel_rfl) (by simp) ⟨.refl _,.refl _,trivial⟩ (.refl _) ?_
   rintro ⟨i3,x3⟩ hi3
   simp only at hi3
   by_cases p1:i3<e.length
   ·have e1:(((i3:Nat):Int)<((e.length:Nat):Int))=True:=eq_true (by omega)
    by_cases p2:x3≤m
    ·have e2:=eq_true p2
     refine ic ?_
     refine ⟨by omega,fun c hc=>?_⟩
     rw [Int.toNat_natCast] at hc
     obtain ⟨q,hq,rfl⟩:=dc hc
     have ihq:=ih q (hme q (List.mem_of_getElem? hq)) (IntKind.i64.wrap (m-x3)) σ
     obtain ⟨k1,p1,a1,y1,c1,e1⟩:=q
     simp only [cm] at ihq ⊢
     refine fw ?_
     refine ihq.mono ?_
     rintro r _ ⟨⟨z,rfl⟩,rfl⟩
     refine fw ?_
     rw [show IntKind.i64.wrap ((i3:Int)+1)=((i3+1:Nat):Int) from Zp (by omega) (by omega)]
     exact .mk (i3+1,_) (by simp only;omega) (by simp only;omega) ⟨.refl _,.refl _,trivial⟩ (by repeat first | exact Zf.turn _ rfl | refine Zf.put rfl ?_) (.refl _)
    ·have e2:=eq_false p2
     refine fJ ?_
     exact eF
   ·have e1:(((i3:Nat):Int)<((e.length:Nat):Int))=False:=eq_false (by omega)
    refine fR ?_
    exact eF
def bX (σ:Store):ZO→Store→Prop:=fun r σ'=>(∃ b:Bool,r=.ret (vb b))∧σ'=σ
theorem Ka (t:Tr)(σ:Store):Zj Tryz.prog 13 [.agg t.emb] σ (bX σ):=by
 have h:=CG t 4000 σ
 obtain ⟨k,p,a,y,c,e⟩:=t
 simp only [cm] at h ⊢
 refine Zc [] [] Tryz.func13 rfl (by kernel_rfl) ?_;rw [Tryz.ntmps13,Tryz.results13]
 try simp only [go_sem,seval,BU]
 refine h.mono ?_
 rintro r _ ⟨⟨z,rfl⟩,rfl⟩
 by_cases h3:z≤300
 ·have e3:=eq_true h3
  try simp only [go_sem,seval,BU,e3,decide_true]
  exact eF
 ·have e3:=eq_false h3
  try simp only [go_sem,seval,BU,e3,decide_true,decide_false]
  exact eF
end Go.Vx
end
section
set_option maxRecDepth 100000
namespace Go.Vx
open Go.Proofs
theorem LM (l m:List Int)(r1 r2:Rt)(s1 s2:Nat)(h1:s1=1∨l=[])(h2:s2=1∨m=[]):Pur Tryz.prog 29 [.list r1 s1 (Yz l),.list r2 s2 (Yz m)] (vb (decide (l=m))):=by
 intro σ
 refine Zj.ok (by kernel_rfl) (fun hok=>?_)
 have hl:=(hok _ List.mem_cons_self).len
 rw [ZP] at hl
 clear hok
 refine Zc [] [(6,8,0)] Tryz.func29 rfl (by kernel_rfl) ?_;rw [Tryz.ntmps29,Tryz.results29]
 try simp only [go_sem,seval,OH,ZP]
 by_cases hlm:l.length=m.length
 ·have e1:(((l.length:Nat):Int)=((m.length:Nat):Int))=True:=eq_true (by omega)
  try simp only [go_sem,seval,OH,ZP,e1,decide_true]
  refine Zv (mu:=[]) (dr:=[(6,8,0)]) [4,5,11,12,13,14,15,16,17,18,19,20,21,22,23,24,25] (fun i:Nat=>[(5,vi i)]) (fun _=>σ) (fun i=>i≤l.length∧l.take i=m.take i) (fun i=>l.length-i) 0 (by kernel_rfl) ⟨by omega,rfl⟩ ⟨.refl _,trivial⟩ (.refl _) ?_
  rintro i ⟨i1,i2⟩
  try simp only [go_sem,seval,OH,ZP]
  refine ⟨fun h3=>?_,fun h3=>?_⟩
  ·have hs1:s1=1:=by
    rcases h1 with h | h
    ·exact h
    ·rw [h] at h3;simp at h3;omega
   have hs2:s2=1:=by
    rcases h2 with h | h
    ·exact h
    ·rw [h] at hlm;simp only [List.length_nil] at hlm;omega
   refine ⟨by rw [hs1],by omega,by omega,fun c hc=>?_⟩
   rw [Int.toNat_natCast] at hc
   obtain ⟨a,ha,rfl⟩:=Yo hc
   try simp only [go_sem,seval,OH,ZP]
   refine ⟨by rw [hs2],by omega,by omega,fun c hc=>?_⟩
   rw [Int.toNat_natCast] at hc
   obtain ⟨b,hb,rfl⟩:=Yo hc
   try simp only [go_sem,seval,OH]
   have hst:l.take (i+1)=m.take (i+1)↔a=b:=by
    rw [List.take_add_one,List.take_add_one,ha,hb,i2];simp
   by_cases hab:a=b
   ·have q1:(a=b)=True:=eq_true hab
    try simp only [go_sem,seval,OH,q1,decide_true]
    first
     | (rw [show IntKind.i64.wrap ((i:Int)+1)=((i+1:Nat):Int) from Zp (by omega) (by omega)]
        exact .mk (i+1) ⟨by omega,hst.2 hab⟩ (by omega) ⟨.refl _,trivial⟩ (by repeat first | exact Zf.turn _ rfl | refine Zf.put rfl ?_) (.refl _))
     | (refine ⟨fun h=>absurd hab h,fun _=>?_⟩
        rw [show IntKind.i64.wrap ((i:Int)+1)=((i+1:Nat):Int) from Zp (by omega) (by omega)]
        exact .mk (i+1) ⟨by omega,hst.2 hab⟩ (by omega) ⟨.refl _,trivial⟩ (by repeat first | exact Zf.turn _ rfl | refine Zf.put rfl ?_) (.refl _))
   ·have q1:(a=b)=False:=eq_false hab
    try simp only [go_sem,seval,OH,q1,decide_false]
    have:l≠m:=fun e=>hab (hst.1 (by rw [e]))
    first
     | exact ZC (by simp [this])
     | exact ⟨fun _=>ZC (by simp [this]),fun h=>absurd h hab⟩
  ·try simp only [go_sem,seval,OH]
   refine ZC ?_
   rw [List.take_of_length_le (by omega),List.take_of_length_le (by omega)] at i2
   simp [i2]
 ·have e1:(((l.length:Nat):Int)=((m.length:Nat):Int))=False:=eq_false (by omega)
  try simp only [go_sem,seval,OH,ZP,e1,decide_false]
  refine ZC ?_
  have:l≠m:=fun e=>hlm (by rw [e])
  simp [this]
end Go.Vx
end
section
set_option maxRecDepth 100000
namespace Go.Vx
open Go.Proofs
theorem W5:(Zl Tryz.prog 25=some (.agg #[(.slice none 0 0),(.slice none 0 0)]))∧(Zh Tryz.prog 25=some 2)∧(Ze Tryz.prog 25=some true)∧(Zl Tryz.prog 30=some (.agg #[(.int .i64 0),(.slice none 0 0),(.int .i64 0),(.slice none 0 0),(.slice none 0 0),(.slice none 0 0)]))∧(Zh Tryz.prog 30=some 6)∧(ZA Tryz.prog 23=some 3)∧(Zh Tryz.prog 3=some 1)∧(Zl Tryz.prog 3=some (.int .i64 0))∧(Zl Tryz.prog 52=some (.agg #[(.int .i64 0),(.int .i64 0),(.string ⟨#[]⟩),(.slice none 0 0)]))∧(Zh Tryz.prog 52=some 4)∧(Ze Tryz.prog 30=some true)∧(Ze Tryz.prog 52=some true)∧(ZA Tryz.prog 33=some 52)∧(Yx Tryz.prog 30=some [(0,1),(1,1),(2,1),(3,1),(4,1),(5,1)])∧(ZA Tryz.prog 26=some 32)∧(Zh Tryz.prog 32=some 2)∧(Ze Tryz.prog 32=some true)∧(eqT Tryz.prog 32=some [0,0])∧(Tryz.prog.underlying 26=some (.slice 32)):=by
 refine ⟨?_,?_,?_,?_,?_,?_,?_,?_,?_,?_,?_,?_,?_,?_,?_,?_,?_,?_,?_⟩<;>first | trivial | kernel_rfl
theorem Cl (L:List Pick):Wk (.agg [vi 1,.list .none 2 (cI L),vi 0,.list .full 0 [],.list .full 0 [],.list .full 0 []]) (.agg (Tr.mk 1 L 0 [] [] []).emb):=by
 refine Wk.agg rfl (fun i c c' h h'=>?_)
 match i with
 | 0=>simp [cm,cD,cP] at h h';subst h;subst h';exact .refl _
 | 1=>simp [cm,cD,cP] at h h';subst h;subst h';exact .refl _
 | 2=>simp [cm,cD,cP] at h h';subst h;subst h';exact .refl _
 | 3=>simp [cm,cD,cP] at h h';subst h;subst h';exact .nilA _ _ _
 | 4=>simp [cm,cD,cP] at h h';subst h;subst h';exact .nilA _ _ _
 | 5=>simp [cm,cD,cP] at h h';subst h;subst h';exact .nilA _ _ _
 | i+6=>simp at h
theorem BX:Pur Tryz.prog 11 [] (vb true):=by
 intro σ
 have hh:(YI sampleF YX).length≤137438953472:=by rw [GB];decide
 have hsm:=GM
 have hcl:=Ov sampleF YX hh
 have hwa:=H2 sampleF YX hh
 have hbu:=SO sampleF YX hh
 rw [LF] at hcl
 rw [Id] at hwa
 rw [GC] at hbu
 have hs1:=R2 (YK sampleF YX).1 [XI sZ [],Yl 0,Yl 0] ON .full 4 (.inl rfl)
 have hs2:=R2 (YK sampleF YX).1 [Yl 0,XI sZ [],XI sS [XI sZ []]] ON .full 4 (.inl rfl)
 have hs3:=R2 (YK sampleF YX).1 [XI sS [XI sZ []],XI sZ [],XI sZ []] ON .full 4 (.inl rfl)
 rw [DI] at hs1
 rw [DH] at hs2
 rw [DG] at hs3
 have hc1:=W9 sampleF YX (.mk 1 [⟨0,0⟩,⟨1,0⟩] 0 [] [] []) (by decide +kernel) hh
 have hc2:=W9 sampleF YX (YK sampleF YX).1 ON hh
 rw [DK] at hc1
 rw [DJ] at hc2
 have hz:=MO sZ [] .full 0 (.inr rfl)
 have hsl:=OO 0
 have hcs:=MO sS [XI sZ []] .full 4 (.inl rfl)
 obtain ⟨TT,hTT⟩:∃ T,T=(YK sampleF YX).1:=⟨_,rfl⟩
 rw [← hTT] at hbu hs1 hs2 hs3 hc2
 obtain ⟨FF,hFF⟩:∃ F,F=sampleF:=⟨_,rfl⟩
 rw [← hFF] at hsm hcl hwa hbu hc1 hc2
 clear hTT hFF
 obtain ⟨kt,pt,at_,yt,ct,et⟩:=TT
 have hc1':∀ S,Zj Tryz.prog 18 [.agg FF.emb,vs YX,.agg [vi 1,.list .none 2 (cI [⟨0,0⟩,⟨1,0⟩]),vi 0,.list .full 0 [],.list .full 0 [],.list .full 0 []]] S (Z8 (vi 230) S):=fun S=>Zj.wk (hc1 S) ⟨.refl _,.refl _,Cl _,trivial⟩
 have hsi:=LM [0,2] [0,2] .none .full 1 1 (.inl rfl) (.inl rfl)
 rw [decide_eq_true rfl] at hsi
 simp only [XI,Yl,co,cH,Flat.emb,cm] at hsm hcl hwa hbu hs1 hs2 hs3 hc1' hc2 hz hsl hcs
 have t3:(((3:Nat):Int)=3)=True:=eq_true rfl
 refine Zc [] [(10,12,0),(11,12,0),(13,14,0)] Tryz.func11 rfl (by kernel_rfl) ?_;rw [Tryz.ntmps11,Tryz.results11]
 refine ib ?_
 refine hsm.use ?_
 refine ib ?_
 intro b1 hb1
 refine ib ?_
 refine hcl.use ?_
 refine ib ?_
 refine hwa.use ?_
 refine ib ?_
 refine hbu.use ?_
 refine ib ?_
 intro b7 hb7
 have n71:b7≠b1:=Ne.symm hb7.1
 have lp:∀ (x y:Pick),((((cI [x,y]).length:Nat):Int)=2)=True:=fun x y=>eq_true rfl
 have lp1:∀ (x:Pick),((((cI [x]).length:Nat):Int)=1)=True:=fun x=>eq_true rfl
 have lp0:((((cI []).length:Nat):Int)=0)=True:=eq_true rfl
 try simp only [go_sem,seval,W5,t3,lp,decide_true]
 refine ⟨rfl,hsi.use ?_⟩
 refine ib ?_
 refine hz.use ?_
 refine ib ?_
 intro b9 hb9
 have n97:b9≠b7:=Ne.symm hb9.1
 have n91:b9≠b1:=Ne.symm hb9.2.1
 refine ib ?_
 refine hsl.use ?_
 refine ib ?_
 intro b10 hb10
 have nA9:b10≠b9:=Ne.symm hb10.1
 have nA7:b10≠b7:=Ne.symm hb10.2.1
 have nA1:b10≠b1:=Ne.symm hb10.2.2.1
 refine fH ?_
 refine ⟨rfl,hs1.use ?_⟩
 refine fH ?_
 refine ⟨rfl,hcs.head ?_⟩
 refine fH ?_
 refine ⟨rfl,hs2.head ?_⟩
 refine fH ?_
 refine ⟨rfl,hcs.head ?_⟩
 refine fH ?_
 refine ⟨rfl,hs3.head ?_⟩
 refine fH ?_
 intro b14 hb14
 have n147:b14≠b7:=Ne.symm hb14.2.2.1
 have n141:b14≠b1:=Ne.symm hb14.2.2.2.1
 refine ij ?_
 refine ⟨by decide,fun d hd=>?_⟩
 have hd2:=Option.some.inj hd
 rw [← hd2]
 try simp only [go_sem,seval,W5,Pick.emb,n141,n147,nA9,nA7,nA1,n97,n91,n71,lp,lp1,lp0,decide_true]
 refine ⟨by decide,fun d hd=>?_⟩
 have hd2:=Option.some.inj hd
 rw [← hd2]
 try simp only [go_sem,seval,W5,Pick.emb,n141,n147,nA9,nA7,nA1,n97,n91,n71,lp,lp1,lp0,decide_true]
 refine (hc1' _).only ?_
 refine ij ?_
 refine hc2.use ?_
 refine ij ?_
 exact ZE (.refl _) ((((((Sub.refl _).skip _).skip _).skip _).skip _).skip _)
end Go.Vx
end
section
set_option maxRecDepth 100000
namespace Go.Vx
open Go.Proofs
end Go.Vx
end
