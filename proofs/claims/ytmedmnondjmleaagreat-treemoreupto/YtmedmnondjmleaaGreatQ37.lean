/- Part Q37 of the proof of treeMoreProved: the walk of the program on abstract values, and the plain law. -/
import Derived.Test.YtmedmnondjmleaaGreatQ36
set_option linter.unusedVariables false
set_option linter.unusedSimpArgs false
section
set_option maxRecDepth 100000
namespace Go.Vx
open Go.Proofs
theorem Pm:(ZB Tryz.prog 26=some 32)∧(Zh Tryz.prog 32=some 2)∧(Ze Tryz.prog 32=some true)∧(eqT Tryz.prog 32=some [0,0])∧(Tryz.prog.underlying 26=some (.slice 32)):=by
 refine ⟨?_,?_,?_,?_,?_⟩<;>first | trivial | kernel_rfl
theorem OH:(ZB Tryz.prog 23=some 3)∧(Zh Tryz.prog 3=some 1)∧(Ze Tryz.prog 3=some false)∧(Tryz.prog.underlying 23=some (.slice 3)):=by
 refine ⟨?_,?_,?_,?_⟩<;>first | trivial | kernel_rfl
def aj (l:List Tm)(σ:Store):ZQ→Store→Prop:=fun r σ'=>(∃ b,r=.ret (vb b)∧(b=true→l.length≤12))∧σ'=σ
theorem DF (l:List Tm)(rt:Rt)(sz:Nat)(hs:sz=4∨l=[])(σ:Store):Zi Tryz.prog 14 [.list rt sz (cw l)] σ (aj l σ):=by
 refine Zb [] [] Tryz.func14 rfl (by kernel_rfl) ?_;rw [Tryz.ntmps14,Tryz.results14]
 try simp only [go_sem,seval,RX,bX]
 by_cases h12:12<l.length
 ·have e0:((12:Int)<((l.length:Nat):Int))=True:=eq_true (by omega)
  try simp only [go_sem,seval,RX,e0,decide_true]
  exact .mk (.refl _) (.refl _) ⟨⟨_,rfl,fun h=>by cases h⟩,rfl⟩
 ·have e0:((12:Int)<((l.length:Nat):Int))=False:=eq_false (by omega)
  try simp only [go_sem,seval,RX,e0,decide_false]
  refine Zw (mu:=[]) (dr:=[]) [2,3,7,8,9,10,11,12,13,14,15,16,17,18,19,20,21,22,23,24,25,26] (fun i:Nat=>[(3,vi i)]) (fun _=>σ) (fun i=>i≤l.length) (fun i=>l.length-i) 0 (by kernel_rfl) (by omega) ⟨.refl _,trivial⟩ (.refl _) ?_
  intro i hi
  try simp only [go_sem,seval,RX,bX]
  refine ⟨fun h1=>?_,fun h1=>?_⟩
  ·obtain ⟨a,ha⟩:∃ a,l[i]?=some a:=⟨_,List.getElem?_eq_getElem (by omega)⟩
   have iha:=DE a σ
   obtain ⟨k1,n1,s1,l1⟩:=a
   simp only [cg] at iha
   refine ⟨?_,by omega,by omega,fun c hc=>?_⟩
   ·rcases hs with hs | hs
    ·rw [hs]
    ·rw [hs] at h1;simp at h1;omega
   rw [Int.toNat_natCast] at hc
   obtain ⟨a',ha',rfl⟩:=cL hc
   rw [ha] at ha';injection ha' with ha';subst ha'
   simp only [cg]
   try simp only [go_sem,seval,RX]
   refine iha.mono ?_
   rintro r _ ⟨⟨z,rfl⟩,rfl⟩
   by_cases h2:60<z
   ·have e2:=eq_true h2
    try simp only [go_sem,seval,RX,bX,e2,decide_true]
    refine ⟨?_,by omega,by omega,fun c hc=>?_⟩
    ·rcases hs with hs | hs
     ·rw [hs]
     ·rw [hs] at h1;simp at h1;omega
    rw [Int.toNat_natCast] at hc
    obtain ⟨a',ha',rfl⟩:=cL hc
    rw [ha] at ha';injection ha' with ha';subst ha'
    simp only [cg]
    try simp only [go_sem,seval,RX]
    refine iha.mono ?_
    rintro r _ ⟨⟨z2,rfl⟩,rfl⟩
    by_cases h3:z2≤4000
    ·have e3:=eq_true h3
     try simp only [go_sem,seval,RX,e3,decide_true]
     exact .mk (.refl _) (.refl _) ⟨⟨_,rfl,fun h=>by cases h⟩,rfl⟩
    ·have e3:=eq_false h3
     try simp only [go_sem,seval,RX,e3,decide_false]
     rw [show IntKind.i64.wrap ((i:Int)+1)=((i+1:Nat):Int) from Zp (by omega) (by omega)]
     exact .mk (i+1) (by omega) (by omega) ⟨.refl _,trivial⟩ (by repeat first | exact Zg.turn _ rfl | refine Zg.put rfl ?_) (.refl _)
   ·have e2:=eq_false h2
    try simp only [go_sem,seval,RX,e2,decide_false]
    rw [show IntKind.i64.wrap ((i:Int)+1)=((i+1:Nat):Int) from Zp (by omega) (by omega)]
    exact .mk (i+1) (by omega) (by omega) ⟨.refl _,trivial⟩ (by repeat first | exact Zg.turn _ rfl | refine Zg.put rfl ?_) (.refl _)
  ·try simp only [go_sem,seval,RX]
   exact .mk (.refl _) (.refl _) ⟨⟨_,rfl,fun _=>by omega⟩,rfl⟩
end Go.Vx
end
section
set_option maxRecDepth 100000
namespace Go.Vx
open Go.Proofs
theorem LQ (l m:List Int)(r1 r2:Rt)(s1 s2:Nat)(h1:s1=1∨l=[])(h2:s2=1∨m=[]):Pur Tryz.prog 29 [.list r1 s1 (Yw l),.list r2 s2 (Yw m)] (vb (decide (l=m))):=by
 intro σ
 refine Zi.ok (by kernel_rfl) (fun hok=>?_)
 have hl:=(hok _ List.mem_cons_self).len
 rw [ZC] at hl
 clear hok
 refine Zb [] [(6,8,0)] Tryz.func29 rfl (by kernel_rfl) ?_;rw [Tryz.ntmps29,Tryz.results29]
 try simp only [go_sem,seval,OH,ZC]
 by_cases hlm:l.length=m.length
 ·have e1:(((l.length:Nat):Int)=((m.length:Nat):Int))=True:=eq_true (by omega)
  try simp only [go_sem,seval,OH,ZC,e1,decide_true]
  refine Zw (mu:=[]) (dr:=[(6,8,0)]) [4,5,11,12,13,14,15,16,17,18,19,20,21,22,23,24,25] (fun i:Nat=>[(5,vi i)]) (fun _=>σ) (fun i=>i≤l.length∧l.take i=m.take i) (fun i=>l.length-i) 0 (by kernel_rfl) ⟨by omega,rfl⟩ ⟨.refl _,trivial⟩ (.refl _) ?_
  rintro i ⟨i1,i2⟩
  try simp only [go_sem,seval,OH,ZC]
  refine ⟨fun h3=>?_,fun h3=>?_⟩
  ·have hs1:s1=1:=by
    rcases h1 with h | h
    ·exact h
    ·rw [h] at h3;simp at h3;omega
   have hs2:s2=1:=by
    rcases h2 with h | h
    ·exact h
    ·rw [h] at hlm;simp only [List.length_nil] at hlm;omega
   refine ⟨by rw [hs1],by omega,by omega,fun c hc=>?_⟩
   rw [Int.toNat_natCast] at hc
   obtain ⟨a,ha,rfl⟩:=Yx hc
   try simp only [go_sem,seval,OH,ZC]
   refine ⟨by rw [hs2],by omega,by omega,fun c hc=>?_⟩
   rw [Int.toNat_natCast] at hc
   obtain ⟨b,hb,rfl⟩:=Yx hc
   try simp only [go_sem,seval,OH]
   have hst:l.take (i+1)=m.take (i+1)↔a=b:=by
    rw [List.take_add_one,List.take_add_one,ha,hb,i2];simp
   by_cases hab:a=b
   ·have q1:(a=b)=True:=eq_true hab
    try simp only [go_sem,seval,OH,q1,decide_true]
    first
     | (rw [show IntKind.i64.wrap ((i:Int)+1)=((i+1:Nat):Int) from Zp (by omega) (by omega)]
        exact .mk (i+1) ⟨by omega,hst.2 hab⟩ (by omega) ⟨.refl _,trivial⟩ (by repeat first | exact Zg.turn _ rfl | refine Zg.put rfl ?_) (.refl _))
     | (refine ⟨fun h=>absurd hab h,fun _=>?_⟩
        rw [show IntKind.i64.wrap ((i:Int)+1)=((i+1:Nat):Int) from Zp (by omega) (by omega)]
        exact .mk (i+1) ⟨by omega,hst.2 hab⟩ (by omega) ⟨.refl _,trivial⟩ (by repeat first | exact Zg.turn _ rfl | refine Zg.put rfl ?_) (.refl _))
   ·have q1:(a=b)=False:=eq_false hab
    try simp only [go_sem,seval,OH,q1,decide_false]
    have:l≠m:=fun e=>hab (hst.1 (by rw [e]))
    first
     | exact Zz (by simp [this])
     | exact ⟨fun _=>Zz (by simp [this]),fun h=>absurd h hab⟩
  ·try simp only [go_sem,seval,OH]
   refine Zz ?_
   rw [List.take_of_length_le (by omega),List.take_of_length_le (by omega)] at i2
   simp [i2]
 ·have e1:(((l.length:Nat):Int)=((m.length:Nat):Int))=False:=eq_false (by omega)
  try simp only [go_sem,seval,OH,ZC,e1,decide_false]
  refine Zz ?_
  have:l≠m:=fun e=>hlm (by rw [e])
  simp [this]
theorem HY (a b:List Pick)(r1 r2:Rt)(s1 s2:Nat)(h1:s1=2∨a=[])(h2:s2=2∨b=[]):Pur Tryz.prog 21 [.list r1 s1 (cj a),.list r2 s2 (cj b)] (vb (a.all fun x=>decide (x∈b))):=by
 intro σ
 refine Zi.ok (by kernel_rfl) (fun hok=>?_)
 have hla:=(hok _ List.mem_cons_self).len
 have hlb:=(hok _ (List.mem_cons_of_mem _ List.mem_cons_self)).len
 rw [cd] at hla hlb
 clear hok
 refine Zb [] [(8,10,0)] Tryz.func21 rfl (by kernel_rfl) ?_;rw [Tryz.ntmps21,Tryz.results21]
 try simp only [go_sem,seval,Pm]
 refine Zw (mu:=[]) (dr:=[(8,10,0)]) [4,5,6,7,8,9,10,11,12,13,14,15,16,17,18,19,20,21,22,23,24,25,26,27,28,29,30,31,32,33] (fun i:Nat=>[(5,vi i)]) (fun _=>σ) (fun i=>i≤a.length∧∀ x∈a.take i,x∈b) (fun i=>a.length-i) 0 (by kernel_rfl) ⟨by omega,by simp⟩ ⟨.refl _,trivial⟩ (.refl _) ?_
 rintro i ⟨i1,i2⟩
 try simp only [go_sem,seval,Pm,cd]
 refine ⟨fun h3=>?_,fun h3=>?_⟩
 ·obtain ⟨x,hx⟩:∃ x,a[i]?=some x:=⟨_,List.getElem?_eq_getElem (by omega)⟩
  have hs1:s1=2:=by
   rcases h1 with h | h
   ·exact h
   ·rw [h] at h3;simp at h3;omega
  refine Zw (mu:=[]) (dr:=[(8,10,0)]) [6,7,14,15,16,17,18,19,20,21,22,23,24,25,26,27,28,29,30,31] (fun k:Nat=>[(7,vi k),(6,vb (decide (x∈b.take k)))]) (fun _=>σ) (fun k=>k≤b.length) (fun k=>b.length-k) 0 (by kernel_rfl) (by omega) ⟨.refl _,by simp only [List.take_zero,List.not_mem_nil,decide_false];exact .refl _,trivial⟩ (.refl _) ?_
  intro k hk
  try simp only [go_sem,seval,Pm,cd]
  refine ⟨fun h4=>?_,fun h4=>?_⟩
  ·obtain ⟨z,hz⟩:∃ z,b[k]?=some z:=⟨_,List.getElem?_eq_getElem (by omega)⟩
   have hs2:s2=2:=by
    rcases h2 with h | h
    ·exact h
    ·rw [h] at h4;simp at h4;omega
   have hst:decide (x∈b.take (k+1))=(decide (x∈b.take k) || decide (x=z)):=by
    rw [List.take_add_one,hz,Option.toList_some];simp
   have hw:IntKind.i64.wrap ((k:Int)+1)=((k+1:Nat):Int):=Zp (by omega) (by omega)
   by_cases hin:x∈b.take k
   ·have q:(x∈b.take k)=True:=eq_true hin
    have hst2:decide (x∈b.take (k+1))=true:=by rw [hst];simp [hin]
    try simp only [go_sem,seval,Pm,q,decide_true]
    rw [hw]
    exact .mk (k+1) (by omega) (by omega) ⟨.refl _,by rw [hst2];exact .refl _,trivial⟩ (by repeat first | exact Zg.turn _ rfl | refine Zg.put rfl ?_) (.refl _)
   ·have q:(x∈b.take k)=False:=eq_false hin
    try simp only [go_sem,seval,Pm,q,decide_false,cd]
    refine ⟨by rw [hs1],by omega,by omega,fun c hc=>?_⟩
    rw [Int.toNat_natCast] at hc
    obtain ⟨x',hx',rfl⟩:=cJ hc
    rw [hx] at hx';injection hx' with hx';subst hx'
    try simp only [go_sem,seval,Pm,cd,Pick.emb]
    refine ⟨by rw [hs2],by omega,by omega,fun c hc=>?_⟩
    rw [Int.toNat_natCast] at hc
    obtain ⟨z',hz',rfl⟩:=cJ hc
    rw [hz] at hz';injection hz' with hz';subst hz'
    try simp only [go_sem,seval,Pm,Pick.emb]
    rw [hw]
    refine .mk (k+1) (by omega) (by omega) ⟨.refl _,?_,trivial⟩ (by repeat first | exact Zg.turn _ rfl | refine Zg.put rfl ?_) (.refl _)
    have:(decide (x.rule=z.rule)&&decide (x.alt=z.alt))=decide (x∈b.take (k+1)):=by
     rw [hst]
     have hp:=OZ x z
     by_cases hxz:x=z
     ·subst hxz;simp
     ·rw [Bool.eq_iff_iff];simp only [Bool.and_eq_true,decide_eq_true_eq,hp,Bool.or_eq_true];simp [hin,hxz]
    first
     | (rw [← this];exact .refl _)
     | (rw [show (decide (x∈b.take (k+1)))=_ from this.symm];exact .refl _)
  ·have hbl:b.take k=b:=List.take_of_length_le (by omega)
   rw [hbl]
   by_cases hin:x∈b
   ·have q:(x∈b)=True:=eq_true hin
    try simp only [go_sem,seval,Pm,q,decide_true]
    rw [show IntKind.i64.wrap ((i:Int)+1)=((i+1:Nat):Int) from Zp (by omega) (by omega)]
    refine .mk (i+1) ⟨by omega,fun y hy=>?_⟩ (by omega) ⟨.refl _,trivial⟩ (by repeat first | exact Zg.turn _ rfl | refine Zg.put rfl ?_ | refine cI _ rfl rfl ?_) (.refl _)
    rw [List.take_add_one,hx,Option.toList_some,List.mem_append] at hy
    rcases hy with hy | hy
    ·exact i2 y hy
    ·simp at hy;rw [hy];exact hin
   ·have q:(x∈b)=False:=eq_false hin
    try simp only [go_sem,seval,Pm,q,decide_false]
    refine Zz (Eq.symm ?_)
    rw [List.all_eq_false]
    exact ⟨x,List.mem_of_getElem? hx,by simpa using hin⟩
 ·try simp only [go_sem,seval,Pm]
  refine Zz (Eq.symm ?_)
  rw [List.take_of_length_le (by omega)] at i2
  rw [List.all_eq_true]
  intro y hy
  simpa using i2 y hy
end Go.Vx
end
section
set_option maxRecDepth 100000
namespace Go.Vx
open Go.Proofs
theorem Vb:(Zl Tryz.prog 25=some (.agg #[(.slice none 0 0),(.slice none 0 0)]))∧(Zh Tryz.prog 25=some 2)∧(Ze Tryz.prog 25=some true)∧(Zl Tryz.prog 30=some (.agg #[(.int .i64 0),(.slice none 0 0),(.int .i64 0),(.slice none 0 0),(.slice none 0 0),(.slice none 0 0)]))∧(Zh Tryz.prog 30=some 6)∧(ZB Tryz.prog 23=some 3)∧(Zh Tryz.prog 3=some 1)∧(Zl Tryz.prog 3=some (.int .i64 0))∧(Zl Tryz.prog 52=some (.agg #[(.int .i64 0),(.int .i64 0),(.string ⟨#[]⟩),(.slice none 0 0)]))∧(Zh Tryz.prog 52=some 4)∧(Ze Tryz.prog 30=some true)∧(Ze Tryz.prog 52=some true)∧(ZB Tryz.prog 33=some 52)∧(YD Tryz.prog 30=some [(0,1),(1,1),(2,1),(3,1),(4,1),(5,1)])∧(ZB Tryz.prog 26=some 32)∧(Zh Tryz.prog 32=some 2)∧(Ze Tryz.prog 32=some true)∧(eqT Tryz.prog 32=some [0,0])∧(Tryz.prog.underlying 26=some (.slice 32)):=by
 refine ⟨?_,?_,?_,?_,?_,?_,?_,?_,?_,?_,?_,?_,?_,?_,?_,?_,?_,?_,?_⟩<;>first | trivial | kernel_rfl
theorem Ca (L:List Pick):Wk (.agg [vi 1,.list .none 2 (cj L),vi 0,.list .full 0 [],.list .full 0 [],.list .full 0 []]) (.agg (Tr.mk 1 L 0 [] [] []).emb):=by
 refine Wk.agg rfl (fun i c c' h h'=>?_)
 match i with
 | 0=>simp [ck,cm,cH] at h h';subst h;subst h';exact .refl _
 | 1=>simp [ck,cm,cH] at h h';subst h;subst h';exact .refl _
 | 2=>simp [ck,cm,cH] at h h';subst h;subst h';exact .refl _
 | 3=>simp [ck,cm,cH] at h h';subst h;subst h';exact .nilA _ _ _
 | 4=>simp [ck,cm,cH] at h h';subst h;subst h';exact .nilA _ _ _
 | 5=>simp [ck,cm,cH] at h h';subst h;subst h';exact .nilA _ _ _
 | i+6=>simp at h
theorem BO:Pur Tryz.prog 11 [] (vb true):=by
 intro σ
 have hh:(Z6 sampleF YZ).length≤137438953472:=by rw [Gw];decide
 have hsm:=GH
 have hcl:=Ou sampleF YZ hh
 have hwa:=H0 sampleF YZ hh
 have hbu:=Wu sampleF YZ hh
 rw [LJ] at hcl
 rw [Ic] at hwa
 rw [Gx] at hbu
 have hs1:=Wy (ZP sampleF YZ).1 [XM sZ [],Z8 0,Z8 0] OM .full 4 (.inl rfl)
 have hs2:=Wy (ZP sampleF YZ).1 [Z8 0,XM sZ [],XM sS [XM sZ []]] OM .full 4 (.inl rfl)
 have hs3:=Wy (ZP sampleF YZ).1 [XM sS [XM sZ []],XM sZ [],XM sZ []] OM .full 4 (.inl rfl)
 rw [DA] at hs1
 rw [Dz] at hs2
 rw [Dy] at hs3
 have hc1:=SU sampleF YZ (.mk 1 [⟨0,0⟩,⟨1,0⟩] 0 [] [] []) (by decide +kernel) hh
 have hc2:=SU sampleF YZ (ZP sampleF YZ).1 OM hh
 rw [DC] at hc1
 rw [DB] at hc2
 have hz:=MR sZ [] .full 0 (.inr rfl)
 have hsl:=R5 0
 have hcs:=MR sS [XM sZ []] .full 4 (.inl rfl)
 obtain ⟨TT,hTT⟩:∃ T,T=(ZP sampleF YZ).1:=⟨_,rfl⟩
 rw [← hTT] at hbu hs1 hs2 hs3 hc2
 obtain ⟨FF,hFF⟩:∃ F,F=sampleF:=⟨_,rfl⟩
 rw [← hFF] at hsm hcl hwa hbu hc1 hc2
 clear hTT hFF
 obtain ⟨kt,pt,at_,yt,ct,et⟩:=TT
 have hc1':∀ S,Zi Tryz.prog 18 [.agg FF.emb,vs YZ,.agg [vi 1,.list .none 2 (cj [⟨0,0⟩,⟨1,0⟩]),vi 0,.list .full 0 [],.list .full 0 [],.list .full 0 []]] S (Yn (vi 230) S):=fun S=>Zi.wk (hc1 S) ⟨.refl _,.refl _,Ca _,trivial⟩
 have hsi:=LQ [0,2] [0,2] .none .full 1 1 (.inl rfl) (.inl rfl)
 rw [decide_eq_true rfl] at hsi
 simp only [XM,Z8,cg,cw,Flat.emb,ck] at hsm hcl hwa hbu hs1 hs2 hs3 hc1' hc2 hz hsl hcs
 have t3:(((3:Nat):Int)=3)=True:=eq_true rfl
 refine Zb [] [(10,12,0),(11,12,0),(13,14,0)] Tryz.func11 rfl (by kernel_rfl) ?_;rw [Tryz.ntmps11,Tryz.results11]
 refine gZ ?_
 refine hsm.use ?_
 refine gZ ?_
 intro b1 hb1
 refine gZ ?_
 refine hcl.use ?_
 refine gZ ?_
 refine hwa.use ?_
 refine gZ ?_
 refine hbu.use ?_
 refine gZ ?_
 intro b7 hb7
 have n71:b7≠b1:=Ne.symm hb7.1
 have lp:∀ (x y:Pick),((((cj [x,y]).length:Nat):Int)=2)=True:=fun x y=>eq_true rfl
 have lp1:∀ (x:Pick),((((cj [x]).length:Nat):Int)=1)=True:=fun x=>eq_true rfl
 have lp0:((((cj []).length:Nat):Int)=0)=True:=eq_true rfl
 try simp only [go_sem,seval,Vb,t3,lp,decide_true]
 refine ⟨rfl,hsi.use ?_⟩
 refine gZ ?_
 refine hz.use ?_
 refine gZ ?_
 intro b9 hb9
 have n97:b9≠b7:=Ne.symm hb9.1
 have n91:b9≠b1:=Ne.symm hb9.2.1
 refine gZ ?_
 refine hsl.use ?_
 refine gZ ?_
 intro b10 hb10
 have nA9:b10≠b9:=Ne.symm hb10.1
 have nA7:b10≠b7:=Ne.symm hb10.2.1
 have nA1:b10≠b1:=Ne.symm hb10.2.2.1
 refine fH ?_
 refine ⟨rfl,hs1.use ?_⟩
 refine fH ?_
 refine ⟨rfl,hcs.head ?_⟩
 refine fH ?_
 refine ⟨rfl,hs2.head ?_⟩
 refine fH ?_
 refine ⟨rfl,hcs.head ?_⟩
 refine fH ?_
 refine ⟨rfl,hs3.head ?_⟩
 refine fH ?_
 intro b14 hb14
 have n147:b14≠b7:=Ne.symm hb14.2.2.1
 have n141:b14≠b1:=Ne.symm hb14.2.2.2.1
 refine ia ?_
 refine ⟨by decide,fun d hd=>?_⟩
 have hd2:=Option.some.inj hd
 rw [← hd2]
 try simp only [go_sem,seval,Vb,Pick.emb,n141,n147,nA9,nA7,nA1,n97,n91,n71,lp,lp1,lp0,decide_true]
 refine ⟨by decide,fun d hd=>?_⟩
 have hd2:=Option.some.inj hd
 rw [← hd2]
 try simp only [go_sem,seval,Vb,Pick.emb,n141,n147,nA9,nA7,nA1,n97,n91,n71,lp,lp1,lp0,decide_true]
 refine (hc1' _).only ?_
 refine ia ?_
 refine hc2.use ?_
 refine ia ?_
 exact ZF (.refl _) ((((((Sub.refl _).skip _).skip _).skip _).skip _).skip _)
end Go.Vx
end
section
set_option maxRecDepth 100000
namespace Go.Vx
open Go.Proofs
def CE (pred:Str)(xr xa:Int)(args:List Tm):List AV:=[vs pred,vi xr,vi xa,.list .none 4 (cw args)]
end Go.Vx
end
