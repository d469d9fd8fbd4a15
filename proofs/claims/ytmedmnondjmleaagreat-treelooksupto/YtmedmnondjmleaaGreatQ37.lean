/- Part Q37 of the proof of treeLooksProved: the walk of the program on abstract values, and the plain law. -/
import Derived.Test.YtmedmnondjmleaaGreatQUha
set_option linter.unusedVariables false
set_option linter.unusedSimpArgs false
section
set_option maxRecDepth 100000
namespace Go.Vx
open Go.Proofs
theorem K9:Wk (.agg [vi 0,.list .full 0 [],vi 0,.list .full 0 [],.list .full 0 [],.list .full 0 []]) (.agg (Tr.mk 0 [] 0 [] [] []).emb):=by
 refine Wk.agg rfl (fun i c c' h h'=>?_)
 match i with
 | 0=>simp [cm,cD,cP] at h h';subst h;subst h';exact .refl _
 | 1=>simp [cm,cD,cP] at h h';subst h;subst h';exact .nilA _ _ _
 | 2=>simp [cm,cD,cP] at h h';subst h;subst h';exact .refl _
 | 3=>simp [cm,cD,cP] at h h';subst h;subst h';exact .nilA _ _ _
 | 4=>simp [cm,cD,cP] at h h';subst h;subst h';exact .nilA _ _ _
 | 5=>simp [cm,cD,cP] at h h';subst h;subst h';exact .nilA _ _ _
 | i+6=>simp at h
theorem SO (f:Flat)(pred:Str)(hh:(YI f pred).length≤137438953472):Pur Tryz.prog 15 [.agg f.emb,vs pred] (.tup [.agg (YK f pred).1.emb,vi (YK f pred).2]):=by
 intro σ
 refine Zj.nodup (by kernel_rfl) (fun hnd=>?_)
 have h:=OR f pred hh
 have hf:=WU f pred
 have hlen:=R9 f pred
 obtain ⟨B,hB⟩:∃ B,B=YK f pred:=⟨_,rfl⟩
 rw [← hB]
 unfold YK at hB
 obtain ⟨⟨rs,n,e⟩,hr⟩:∃ q,q=Z1 f pred:=⟨_,rfl⟩
 rw [← hr] at h hf hlen hB
 simp only at h hf hlen hB
 simp only [Flat.emb] at h ⊢
 refine W3 Tryz.func15 rfl (by kernel_rfl) ?_
 rw [Tryz.ntmps15,Tryz.results15]
 refine .seq (.of (ZD (mu:=[]) (dr:=[(3,2,1)]) (by kernel_rfl) _ (by kernel_rfl) _ _ _ ?_))
 refine gz ?_
 intro b4 hb4 b5 hb5
 have n54:b5≠b4:=Ne.symm hb5.1
 simp only [XL]
 refine .seq (.of (ZD (mu:=[]) (dr:=[(3,2,1)]) (by kernel_rfl) _ (by kernel_rfl) _ _ _ ?_))
 refine gz ?_
 refine h.use ?_
 refine gz ?_
 intro b7 hb7
 have n75:b7≠b5:=Ne.symm hb7.1
 have n74:b7≠b4:=Ne.symm hb7.2.1
 try simp only [go_sem,seval,Uc,n75,n74,n54]
 simp only [XL]
 refine .seq (.of (ZD (mu:=[]) (dr:=[(3,2,1)]) (by kernel_rfl) _ (by kernel_rfl) _ _ _ ?_))
 try simp only [go_sem,seval,Uc,n75,n74,n54]
 refine ⟨fun h1=>?_,fun h1=>?_⟩
 ·rw [if_pos (by simpa using h1)] at hB
  subst hB
  try simp only [go_sem,seval,Uc,n75,n74,n54]
  simp only [XL]
  try simp only [go_sem,seval,Uc,n75,n74,n54]
  exact .mk (.tup2 K9 (.refl _)) (((Sub.refl _).skip _).skip _ |>.skip _) ⟨rfl,rfl⟩
 ·have h1':e=0:=by simpa using h1
  subst h1'
  rw [if_neg (by simp)] at hB
  obtain ⟨_,f1,f2,f3,f4⟩:=hf rfl
  simp only [XL]
  refine .seq (.of (ZD (mu:=[]) (dr:=[(3,2,1)]) (by kernel_rfl) _ (by kernel_rfl) _ _ _ ?_))
  refine gz ?_
  intro b8 hb8
  have n87:b8≠b7:=Ne.symm hb8.1
  refine gz ?_
  simp only [XL]
  refine .seq (.of (ZD (mu:=[]) (dr:=[(3,2,1)]) (by kernel_rfl) _ (by kernel_rfl) _ _ _ ?_))
  refine gz ?_
  intro b9 hb9
  have n98:b9≠b8:=Ne.symm hb9.1
  have n97:b9≠b7:=Ne.symm hb9.2.1
  refine gz ?_
  simp only [XL]
  refine .seq (.of (ZD (mu:=[]) (dr:=[(3,2,1)]) (by kernel_rfl) _ (by kernel_rfl) _ _ _ ?_))
  refine gz ?_
  simp only [XL]
  refine .seq (.region (mu:=[]) (pre:=[_]) 22 (by kernel_rfl) (by kernel_rfl) (by decide) ?_)
  refine gz ?_
  refine ⟨_,_,rfl,?_⟩
  simp only [XL]
  refine .of (ZD (mu:=[]) (dr:=[(3,2,1)]) (by kernel_rfl) _ (by kernel_rfl) _ _ _ ?_)
  have g7:Store.get ((b9,AObj.cells [.val (Nu b8 b7 b9)])::(b8,lfO 4000)::(b7,lfO (n:Nat))::(b5,lfO 0)::(b4,zeroT)::σ) b7=some (lfO (n:Nat)):=by rw [Za n97,Za n87,Zi]
  have g8:Store.get ((b9,AObj.cells [.val (Nu b8 b7 b9)])::(b8,lfO 4000)::(b7,lfO (n:Nat))::(b5,lfO 0)::(b4,zeroT)::σ) b8=some (lfO 4000):=by rw [Za n98,Zi]
  have g9:Store.get ((b9,AObj.cells [.val (Nu b8 b7 b9)])::(b8,lfO 4000)::(b7,lfO (n:Nat))::(b5,lfO 0)::(b4,zeroT)::σ) b9=some (.cells [.val (Nu b8 b7 b9)]):=Zi _ _ _
  have hb:=CL n b8 b7 b9 (Ne.symm n87) n98 (by omega) n (Nat.le_refl _) rs 4000 _ (by omega) f1 (by omega) (by omega) ⟨g8,g7,g9⟩
  rw [Nat.sub_self] at hb
  refine gz ?_
  refine hb.mono ?_
  intro r S hr
  have n95:b9≠b5:=Ne.symm hb9.2.2.1
  have n94:b9≠b4:=Ne.symm hb9.2.2.2.1
  have n85:b8≠b5:=Ne.symm hb8.2.1
  have n84:b8≠b4:=Ne.symm hb8.2.2.1
  have hset:∀ y,Store.set ((b9,AObj.cells [.val (Nu b8 b7 b9)])::(b8,lfO 4000)::(b7,lfO (n:Nat))::(b5,lfO 0)::(b4,zeroT)::σ) b8 (lfO y)=(b9,AObj.cells [.val (Nu b8 b7 b9)])::(b8,lfO y)::(b7,lfO (n:Nat))::(b5,lfO 0)::(b4,zeroT)::σ:=fun y=>by rw [Zk n98,Z6]
  cases hq:Tu n n rs 4000 with
  | none =>
    rw [hq] at hr hB
    obtain ⟨rfl,y,rfl⟩:=hr
    simp only at hB
    subst hB
    rw [hset]
    refine gz ?_
    simp only [Sv]
    refine ⟨_,_,_,rfl,rfl,?_⟩
    refine ES b4 b5 (vi 0) (.list .full 0 []) (vi 0) (.list .full 0 []) (.list .full 0 []) (.list .full 0 []) (vi 0) _ _ (Ne.symm n54) (by rw [Za n94,Za n84,Za n74,Za n54,Zi]) (by rw [Za n95,Za n85,Za n75,Zi];rfl) ?_
    try simp only [go_sem,seval,Uc,lfO,n94,n84,n74,n54,n95,n85,n75,Zk,Z6]
    exact .mk (.tup2 K9 (.refl _)) (((((Sub.refl _).skip _).skip _ |>.skip _).skip _).skip _) ⟨rfl,rfl⟩
  | some q =>
    obtain ⟨⟨k1,p1,a1,y1,c1,e1⟩,z⟩:=q
    rw [hq] at hr hB
    obtain ⟨rfl,rfl⟩:=hr
    simp only at hB
    subst hB
    rw [hset]
    simp only [cm]
    try simp only [go_sem,seval,Uc,lfO,n94,n84,n74,n54,n95,n85,n75]
    simp only [Su]
    refine ⟨_,_,rfl,?_⟩
    refine ET b4 b5 _ _ ?_
    try simp only [go_sem,seval,Uc,lfO,n94,n84,n74,n54,n95,n85,n75]
    exact .mk (.refl _) (((((Sub.refl _).skip _).skip _ |>.skip _).skip _).skip _) ⟨rfl,rfl⟩
end Go.Vx
end
section
set_option maxRecDepth 100000
namespace Go.Vx
open Go.Proofs
theorem LA:(Zz Tryz.prog 52 3=some 3)∧(Zh Tryz.prog 33=some 1)∧(Ze Tryz.prog 33=some false)∧(ZA Tryz.prog 33=some 52)∧(Zh Tryz.prog 52=some 4)∧(Ze Tryz.prog 52=some true)∧(Tryz.prog.underlying 33=some (.slice 52)):=by
 refine ⟨?_,?_,?_,?_,?_,?_,?_⟩<;>first | trivial | kernel_rfl
theorem BB:(Zh Tryz.prog 52=some 4)∧(Ze Tryz.prog 52=some true):=by
 refine ⟨?_,?_⟩<;>first | trivial | kernel_rfl
theorem J8:(ZA Tryz.prog 33=some 52)∧(Zh Tryz.prog 52=some 4)∧(Ze Tryz.prog 52=some true)∧(Tryz.prog.underlying 33=some (.slice 52)):=by
 refine ⟨?_,?_,?_,?_⟩<;>first | trivial | kernel_rfl
theorem Lx:(Zz Tryz.prog 152 2=some 2)∧(Zh Tryz.prog 33=some 1)∧(Ze Tryz.prog 33=some false)∧(Zz Tryz.prog 152 4=some 5)∧(Zh Tryz.prog 130=some 1)∧(Ze Tryz.prog 130=some false)∧(ZA Tryz.prog 130=some 152)∧(Zh Tryz.prog 152=some 9)∧(Ze Tryz.prog 152=some true)∧(Tryz.prog.underlying 130=some (.slice 152)):=by
 refine ⟨?_,?_,?_,?_,?_,?_,?_,?_,?_,?_⟩<;>first | trivial | kernel_rfl
theorem Uk:(Zz Tryz.prog 25 0=some 0)∧(Zh Tryz.prog 22=some 1)∧(Ze Tryz.prog 22=some false)∧(ZA Tryz.prog 22=some 129)∧(Zh Tryz.prog 129=some 2)∧(Zz Tryz.prog 129 1=some 1)∧(Zh Tryz.prog 127=some 1)∧(Ze Tryz.prog 127=some false)∧(ZA Tryz.prog 127=some 132)∧(Zh Tryz.prog 132=some 7)∧(Zz Tryz.prog 132 4=some 4)∧(Zh Tryz.prog 33=some 1)∧(Ze Tryz.prog 33=some false)∧(Zz Tryz.prog 132 5=some 5)∧(Zh Tryz.prog 130=some 1)∧(Ze Tryz.prog 130=some false)∧(ZA Tryz.prog 130=some 152)∧(Zh Tryz.prog 152=some 9)∧(Ze Tryz.prog 152=some true)∧(Tryz.prog.underlying 22=some (.slice 129))∧(Tryz.prog.underlying 127=some (.slice 132))∧(Tryz.prog.underlying 130=some (.slice 152)):=by
 refine ⟨?_,?_,?_,?_,?_,?_,?_,?_,?_,?_,?_,?_,?_,?_,?_,?_,?_,?_,?_,?_,?_,?_⟩<;>first | trivial | kernel_rfl
theorem Xt:(Zz Tryz.prog 30 3=some 3)∧(Zh Tryz.prog 27=some 1)∧(Ze Tryz.prog 27=some false)∧(ZA Tryz.prog 27=some 30)∧(Zh Tryz.prog 30=some 6)∧(Ze Tryz.prog 30=some true)∧(Zz Tryz.prog 30 4=some 4)∧(Zh Tryz.prog 28=some 1)∧(Ze Tryz.prog 28=some false)∧(ZA Tryz.prog 28=some 114)∧(Zh Tryz.prog 114=some 7)∧(Zz Tryz.prog 114 1=some 1)∧(Zz Tryz.prog 30 5=some 5)∧(Tryz.prog.underlying 27=some (.slice 30))∧(Tryz.prog.underlying 28=some (.slice 114)):=by
 refine ⟨?_,?_,?_,?_,?_,?_,?_,?_,?_,?_,?_,?_,?_,?_,?_⟩<;>first | trivial | kernel_rfl
theorem Gs:(Zh Tryz.prog 25=some 2)∧(Ze Tryz.prog 25=some true)∧(Zz Tryz.prog 25 1=some 1)∧(Zh Tryz.prog 23=some 1)∧(Ze Tryz.prog 23=some false)∧(Zz Tryz.prog 25 0=some 0)∧(Zh Tryz.prog 22=some 1)∧(Ze Tryz.prog 22=some false)∧(Tryz.prog.underlying 23=some (.slice 3))∧(Tryz.prog.underlying 22=some (.slice 129)):=by
 refine ⟨?_,?_,?_,?_,?_,?_,?_,?_,?_,?_⟩<;>first | trivial | kernel_rfl
theorem BU:(Zh Tryz.prog 30=some 6)∧(Ze Tryz.prog 30=some true):=by
 refine ⟨?_,?_⟩<;>first | trivial | kernel_rfl
def NL (σ:Store):ZO→Store→Prop:=fun r σ'=>(∃ x:Int,r=.ret (vi x))∧σ'=σ
theorem Fi (t:Tm):∀ (n m d:Int) (σ:Store),Zj Tryz.prog 67 [.agg t.emb,vi n,vi m,vi d] σ (NL σ):=by
 refine dE (M:=fun t=>∀ (n m d:Int) (σ:Store),Zj Tryz.prog 67 [.agg t.emb,vi n,vi m,vi d] σ (NL σ)) (fun k n0 s l ih n m d σ=>?_) t
 refine Zj.ok (by kernel_rfl) (fun hok=>?_)
 have hl:=((hok _ List.mem_cons_self).agg (c:=.list .none 4 (cH l)) (by simp [co])).len
 rw [ci] at hl
 clear hok
 simp only [co]
 refine Zc [] [] Tryz.func67 rfl (by kernel_rfl) ?_;rw [Tryz.ntmps67,Tryz.results67]
 try simp only [go_sem,seval,LA]
 refine Zv (mu:=[]) (dr:=[]) [1,9,12,13,14,15,16,17,18,19,20,21,22,23,24,25,26,27,28,29,30,31,32,33,34,35,36,37] (fun x:Nat×Int=>[(9,vi x.1),(1,vi x.2)]) (fun _=>σ) (fun x=>x.1≤l.length) (fun x=>l.length-x.1) (0,_) (by kernel_rfl) (by simp) ⟨.refl _,.refl _,trivial⟩ (.refl _) ?_
 rintro ⟨i,x⟩ hi
 simp only at hi
 by_cases h1:i<l.length
 ·have e1:(((i:Nat):Int)<((l.length:Nat):Int))=True:=eq_true (by omega)
  by_cases h2:x≤m
  ·have e2:=eq_true h2
   by_cases h3:1<d
   ·have e3:=eq_true h3
    try simp only [go_sem,seval,LA,ci,e1,e2,e3,decide_true]
    refine ⟨by omega,fun c hc=>?_⟩
    rw [Int.toNat_natCast] at hc
    obtain ⟨a,ha,rfl⟩:=cR hc
    have iha:=ih a (List.mem_of_getElem? ha) x m (IntKind.i64.wrap (d-1)) σ
    obtain ⟨k1,n1,s1,l1⟩:=a
    simp only [co] at iha ⊢
    try simp only [go_sem,seval,LA]
    refine iha.mono ?_
    rintro r _ ⟨⟨z,rfl⟩,rfl⟩
    try simp only [go_sem,seval,LA]
    rw [show IntKind.i64.wrap ((i:Int)+1)=((i+1:Nat):Int) from Zp (by omega) (by omega)]
    exact .mk (i+1,z) (by simp only;omega) (by simp only;omega) ⟨.refl _,.refl _,trivial⟩ (by repeat first | exact Zf.turn _ rfl | refine Zf.put rfl ?_) (.refl _)
   ·have e3:=eq_false h3
    try simp only [go_sem,seval,LA,ci,e1,e2,e3,decide_true,decide_false]
    exact eF
  ·have e2:=eq_false h2
   try simp only [go_sem,seval,LA,ci,e1,e2,decide_true,decide_false]
   exact eF
 ·have e1:(((i:Nat):Int)<((l.length:Nat):Int))=False:=eq_false (by omega)
  try simp only [go_sem,seval,LA,ci,e1,decide_true,decide_false]
  exact eF
theorem IB (t:Tm)(m:Int)(σ:Store):Zj Tryz.prog 127 [.agg t.emb,vi m] σ (NL σ):=by
 have h:=Fi t 0 m 1000000 σ
 obtain ⟨k,n,s,l⟩:=t
 simp only [co] at h ⊢
 refine Zc [] [] Tryz.func127 rfl (by kernel_rfl) ?_;rw [Tryz.ntmps127,Tryz.results127]
 try simp only [go_sem,seval,BB]
 refine h.mono ?_
 rintro r _ ⟨⟨z,rfl⟩,rfl⟩
 try simp only [go_sem,seval,BB]
 exact eF
theorem SP (l:List Tm)(n m:Int)(rt:Rt)(sz:Nat)(hs:sz=4∨l=[])(σ:Store):Zj Tryz.prog 89 [.list rt sz (cH l),vi n,vi m] σ (NL σ):=by
 refine Zj.ok (by kernel_rfl) (fun hok=>?_)
 have hl:=(hok _ List.mem_cons_self).len
 rw [ci] at hl
 clear hok
 refine Zc [] [] Tryz.func89 rfl (by kernel_rfl) ?_;rw [Tryz.ntmps89,Tryz.results89]
 try simp only [go_sem,seval,J8]
 refine Zv (mu:=[]) (dr:=[]) [1,7,8,9,10,11,12,13,14,15,16,17,18,19,20,21,22,23,24,25,26] (fun x:Nat×Int=>[(7,vi x.1),(1,vi x.2)]) (fun _=>σ) (fun x=>x.1≤l.length) (fun x=>l.length-x.1) (0,n) (by kernel_rfl) (by simp) ⟨.refl _,.refl _,trivial⟩ (.refl _) ?_
 rintro ⟨i,x⟩ hi
 simp only at hi
 by_cases h1:i<l.length
 ·have e1:(((i:Nat):Int)<((l.length:Nat):Int))=True:=eq_true (by omega)
  by_cases h2:x≤m
  ·have e2:=eq_true h2
   try simp only [go_sem,seval,J8,ci,e1,e2,decide_true]
   refine ⟨?_,by omega,fun c hc=>?_⟩
   ·rcases hs with hs | hs
    ·rw [hs]
    ·rw [hs] at h1;simp at h1
   rw [Int.toNat_natCast] at hc
   obtain ⟨a,ha,rfl⟩:=cR hc
   have iha:=IB a m σ
   obtain ⟨k1,n1,s1,l1⟩:=a
   simp only [co] at iha ⊢
   try simp only [go_sem,seval,J8]
   refine iha.mono ?_
   rintro r _ ⟨⟨z,rfl⟩,rfl⟩
   try simp only [go_sem,seval,J8]
   rw [show IntKind.i64.wrap ((i:Int)+1)=((i+1:Nat):Int) from Zp (by omega) (by omega)]
   exact .mk (i+1,_) (by simp only;omega) (by simp only;omega) ⟨.refl _,.refl _,trivial⟩ (by repeat first | exact Zf.turn _ rfl | refine Zf.put rfl ?_) (.refl _)
  ·have e2:=eq_false h2
   try simp only [go_sem,seval,J8,ci,e1,e2,decide_true,decide_false]
   exact eF
 ·have e1:(((i:Nat):Int)<((l.length:Nat):Int))=False:=eq_false (by omega)
  try simp only [go_sem,seval,J8,ci,e1,decide_true,decide_false]
  exact eF
theorem MF (g:Zg):∀ (n:Int) (σ:Store),Zj Tryz.prog 90 [.agg g.emb,vi n] σ (NL σ):=by
 refine dB (M:=fun g=>∀ (n:Int) (σ:Store),Zj Tryz.prog 90 [.agg g.emb,vi n] σ (NL σ)) (fun k s a t l n0 gg e ih n σ=>?_) g
 refine Zj.ok (by kernel_rfl) (fun hok=>?_)
 obtain ⟨ts,tl⟩:=t
 have hl:=((hok _ List.mem_cons_self).agg (c:=.list .none 9 (cN l)) (by simp [cp])).len
 rw [cg] at hl
 clear hok
 simp only [cp]
 refine Zc [] [] Tryz.func90 rfl (by kernel_rfl) ?_;rw [Tryz.ntmps90,Tryz.results90]
 try simp only [go_sem,seval,Lx]
 refine (SP a _ 8000 .none 4 (.inl rfl) σ).mono ?_
 rintro r _ ⟨⟨z,rfl⟩,rfl⟩
 try simp only [go_sem,seval,Lx]
 refine Zv (mu:=[]) (dr:=[]) [1,5,11,12,13,14,15,16,17,18,19,20,21,22,23,24,25,26,27,28] (fun x:Nat×Int=>[(5,vi x.1),(1,vi x.2)]) (fun _=>_) (fun x=>x.1≤l.length) (fun x=>l.length-x.1) (0,z) (by kernel_rfl) (by simp) ⟨.refl _,.refl _,trivial⟩ (.refl _) ?_
 rintro ⟨i,x⟩ hi
 simp only at hi
 by_cases h1:i<l.length
 ·have e1:(((i:Nat):Int)<((l.length:Nat):Int))=True:=eq_true (by omega)
  by_cases h2:x≤8000
  ·have e2:=eq_true h2
   try simp only [go_sem,seval,Lx,cg,e1,e2,decide_true]
   refine ⟨by omega,fun c hc=>?_⟩
   rw [Int.toNat_natCast] at hc
   obtain ⟨b,hb,rfl⟩:=cQ hc
   have iha:=ih b (List.mem_of_getElem? hb) x
   obtain ⟨k1,s1,a1,⟨ts1,tl1⟩,l1,n1,g1,e1'⟩:=b
   simp only [cp] at iha ⊢
   try simp only [go_sem,seval,Lx]
   refine (iha _).mono ?_
   rintro r _ ⟨⟨z2,rfl⟩,rfl⟩
   try simp only [go_sem,seval,Lx]
   rw [show IntKind.i64.wrap ((i:Int)+1)=((i+1:Nat):Int) from Zp (by omega) (by omega)]
   exact .mk (i+1,z2) (by simp only;omega) (by simp only;omega) ⟨.refl _,.refl _,trivial⟩ (by repeat first | exact Zf.turn _ rfl | refine Zf.put rfl ?_) (.refl _)
  ·have e2:=eq_false h2
   try simp only [go_sem,seval,Lx,cg,e1,e2,decide_true,decide_false]
   exact eF
 ·have e1:(((i:Nat):Int)<((l.length:Nat):Int))=False:=eq_false (by omega)
  try simp only [go_sem,seval,Lx,cg,e1,decide_true,decide_false]
  exact eF
end Go.Vx
end
section
set_option maxRecDepth 100000
namespace Go.Vx
open Go.Proofs
theorem GF (f:Flat)(σ:Store):Zj Tryz.prog 48 [.agg f.emb] σ (NL σ):=by
 refine Zj.ok (by kernel_rfl) (fun hok=>?_)
 have hf:=hok _ List.mem_cons_self
 clear hok
 have hgr:=hf.agg (c:=.list .none 2 (cO f.groups)) (by simp [Flat.emb])
 have hl:=hgr.len
 rw [ck] at hl
 simp only [Flat.emb]
 refine Zc [] [] Tryz.func48 rfl (by kernel_rfl) ?_;rw [Tryz.ntmps48,Tryz.results48]
 try simp only [go_sem,seval,Uk]
 refine Zv (mu:=[]) (dr:=[]) [3,4,5,6,7,8,9,10,11,12,13,14,15,16,17,18,19,20,21,22,23,24,25,26,27,28,29,30,31,32,33,34,35,36,37,38,39,40,41,42,43,44,45,46,47,48,49,50,51,52,53,54,55,56,57,58,59,60,61,62] (fun x:Nat×Int=>[(4,vi x.1),(3,vi x.2)]) (fun _=>σ) (fun x=>x.1≤f.groups.length) (fun x=>f.groups.length-x.1) (0,0) (by kernel_rfl) (by simp) ⟨.refl _,.refl _,trivial⟩ (.refl _) ?_
 rintro ⟨i,x⟩ hi
 simp only at hi
 try simp only [go_sem,seval,Uk,ck]
 refine ⟨fun h1=>⟨by omega,h1,fun c hc=>?_⟩,fun h1=>?_⟩
 ·rw [Int.toNat_natCast] at hc
  obtain ⟨u,hu,rfl⟩:=cT hc
  have hga:=(hgr.mem (e:=u.emb) (List.mem_of_getElem? hc)).agg (c:=.list .none 7 (cK u.alts)) (by simp [FGroup.emb])
  have hla:=hga.len
  rw [cw] at hla
  try simp only [go_sem,seval,Uk,FGroup.emb]
  refine Zv (mu:=[]) (dr:=[]) [3,6,7,21,22,23,24,25,26,27,28,29,30,31,32,33,34,35,36,37,38,39,40,41,42,43,44,45,46,47,48,49,50,51,52,53,54,55,56,57,58,59,60,61,62] (fun x:Nat×Int=>[(6,vi x.1),(3,vi x.2)]) (fun _=>σ) (fun x=>x.1≤u.alts.length) (fun x=>u.alts.length-x.1) (0,x) (by kernel_rfl) (by simp) ⟨.refl _,.refl _,trivial⟩ (.refl _) ?_
  rintro ⟨k,y⟩ hk
  simp only at hk
  by_cases h2:k<u.alts.length
  ·have e1:(((k:Nat):Int)<((u.alts.length:Nat):Int))=True:=eq_true (by omega)
   by_cases h3:y≤8000
   ·have e2:=eq_true h3
    obtain ⟨q,hq⟩:∃ q,u.alts[k]?=some q:=⟨_,List.getElem?_eq_getElem h2⟩
    have hqg:=((hga.mem (e:=q.emb) (by rw [cK];exact List.mem_map_of_mem (List.mem_of_getElem? hq))).agg (c:=.list .none 9 (cN q.goals)) (by simp [FClause.emb])).len
    rw [cg] at hqg
    try simp only [go_sem,seval,Uk,cw,e1,e2,decide_true]
    first | refine ⟨by omega,fun c hc=>?_⟩ | refine ⟨by omega,by omega,fun c hc=>?_⟩
    rw [Int.toNat_natCast] at hc
    obtain ⟨q',hq',rfl⟩:=cZ hc
    rw [hq] at hq';injection hq' with hq';subst hq'
    try simp only [go_sem,seval,Uk,FClause.emb,cg]
    refine (SP q.args _ 8000 .none 4 (.inl rfl) σ).mono ?_
    rintro r _ ⟨⟨z,rfl⟩,rfl⟩
    try simp only [go_sem,seval,Uk]
    refine Zv (mu:=[]) (dr:=[]) [3,7,39,40,41,42,43,44,45,46,47,48,49,50,51,52,53,54,55,56,57,58,59,60,61,62] (fun x:Nat×Int=>[(7,vi x.1),(3,vi x.2)]) (fun _=>_) (fun x=>x.1≤q.goals.length) (fun x=>q.goals.length-x.1) (0,z) (by kernel_rfl) (by simp) ⟨.refl _,.refl _,trivial⟩ (.refl _) ?_
    rintro ⟨m,w⟩ hm
    simp only at hm
    try simp only [go_sem,seval,Uk,cw]
    first | refine ⟨by omega,fun c hc=>?_⟩ | refine ⟨by omega,by omega,fun c hc=>?_⟩
    rw [Int.toNat_natCast] at hc
    obtain ⟨q',hq',rfl⟩:=cZ hc
    rw [hq] at hq';injection hq' with hq';subst hq'
    try simp only [go_sem,seval,Uk,FClause.emb,cg]
    by_cases h4:m<q.goals.length
    ·have e3:(((m:Nat):Int)<((q.goals.length:Nat):Int))=True:=eq_true (by omega)
     by_cases h5:w≤8000
     ·have e4:=eq_true h5
      try simp only [go_sem,seval,Uk,e3,e4,decide_true,cw]
      first | refine ⟨by omega,fun c hc=>?_⟩ | refine ⟨by omega,by omega,fun c hc=>?_⟩
      rw [Int.toNat_natCast] at hc
      obtain ⟨q',hq',rfl⟩:=cZ hc
      rw [hq] at hq';injection hq' with hq';subst hq'
      try simp only [go_sem,seval,Uk,FClause.emb,cg]
      refine ⟨by omega,by omega,fun c hc=>?_⟩
      rw [Int.toNat_natCast] at hc
      obtain ⟨g,hg,rfl⟩:=cQ hc
      have hgn:=MF g w
      obtain ⟨k1,s1,a1,⟨ts1,tl1⟩,l1,n1,g1,e1'⟩:=g
      simp only [cp] at hgn ⊢
      try simp only [go_sem,seval,Uk]
      refine (hgn _).mono ?_
      rintro r _ ⟨⟨z2,rfl⟩,rfl⟩
      try simp only [go_sem,seval,Uk]
      rw [show IntKind.i64.wrap ((m:Int)+1)=((m+1:Nat):Int) from Zp (by omega) (by omega)]
      exact .mk (m+1,z2) (by simp only;omega) (by simp only;omega) ⟨.refl _,.refl _,trivial⟩ (by repeat first | exact Zf.turn _ rfl | refine Zf.put rfl ?_) (.refl _)
     ·have e4:=eq_false h5
      try simp only [go_sem,seval,Uk,e3,e4,decide_true,decide_false]
      rw [show IntKind.i64.wrap ((k:Int)+1)=((k+1:Nat):Int) from Zp (by omega) (by omega)]
      exact .mk (k+1,w) (by simp only;omega) (by simp only;omega) ⟨.refl _,.refl _,trivial⟩ (by repeat first | exact Zf.turn _ rfl | refine Zf.put rfl ?_ | refine cL _ rfl rfl ?_) (.refl _)
    ·have e3:(((m:Nat):Int)<((q.goals.length:Nat):Int))=False:=eq_false (by omega)
     try simp only [go_sem,seval,Uk,e3,decide_true,decide_false]
     rw [show IntKind.i64.wrap ((k:Int)+1)=((k+1:Nat):Int) from Zp (by omega) (by omega)]
     exact .mk (k+1,w) (by simp only;omega) (by simp only;omega) ⟨.refl _,.refl _,trivial⟩ (by repeat first | exact Zf.turn _ rfl | refine Zf.put rfl ?_ | refine cL _ rfl rfl ?_) (.refl _)
   ·have e2:=eq_false h3
    try simp only [go_sem,seval,Uk,cw,e1,e2,decide_true,decide_false]
    rw [show IntKind.i64.wrap ((i:Int)+1)=((i+1:Nat):Int) from Zp (by omega) (by omega)]
    exact .mk (i+1,y) (by simp only;omega) (by simp only;omega) ⟨.refl _,.refl _,trivial⟩ (by repeat first | exact Zf.turn _ rfl | refine Zf.put rfl ?_ | refine cL _ rfl rfl ?_) (.refl _)
  ·have e1:(((k:Nat):Int)<((u.alts.length:Nat):Int))=False:=eq_false (by omega)
   try simp only [go_sem,seval,Uk,cw,e1,decide_true,decide_false]
   rw [show IntKind.i64.wrap ((i:Int)+1)=((i+1:Nat):Int) from Zp (by omega) (by omega)]
   exact .mk (i+1,y) (by simp only;omega) (by simp only;omega) ⟨.refl _,.refl _,trivial⟩ (by repeat first | exact Zf.turn _ rfl | refine Zf.put rfl ?_ | refine cL _ rfl rfl ?_) (.refl _)
 ·try simp only [go_sem,seval,Uk]
  exact eF
def cd (f:Flat)(σ:Store):ZO→Store→Prop:=fun r σ'=>(∃ b,r=.ret (vb b)∧(b=true→f.rules.length≤300))∧σ'=σ
theorem bv (f:Flat)(σ:Store):Zj Tryz.prog 12 [.agg f.emb] σ (cd f σ):=by
 have h:=GF f σ
 simp only [Flat.emb] at h ⊢
 refine Zc [] [] Tryz.func12 rfl (by kernel_rfl) ?_;rw [Tryz.ntmps12,Tryz.results12]
 try simp only [go_sem,seval,Gs]
 refine h.mono ?_
 rintro r _ ⟨⟨z,rfl⟩,rfl⟩
 by_cases h1:f.rules.length≤300
 ·have e1:(((f.rules.length:Nat):Int)≤300)=True:=eq_true (by omega)
  by_cases h2:f.groups.length≤2000
  ·have e2:(((f.groups.length:Nat):Int)≤2000)=True:=eq_true (by omega)
   by_cases h3:z≤400
   ·have e3:=eq_true h3
    try simp only [go_sem,seval,Gs,ZP,ck,e1,e2,e3,decide_true]
    exact .mk (.refl _) (.refl _) ⟨⟨_,rfl,fun _=>h1⟩,rfl⟩
   ·have e3:=eq_false h3
    try simp only [go_sem,seval,Gs,ZP,ck,e1,e2,e3,decide_true,decide_false]
    exact .mk (.refl _) (.refl _) ⟨⟨_,rfl,fun _=>h1⟩,rfl⟩
  ·have e2:(((f.groups.length:Nat):Int)≤2000)=False:=eq_false (by omega)
   try simp only [go_sem,seval,Gs,ZP,ck,e1,e2,decide_true,decide_false]
   exact .mk (.refl _) (.refl _) ⟨⟨_,rfl,fun _=>h1⟩,rfl⟩
 ·have e1:(((f.rules.length:Nat):Int)≤300)=False:=eq_false (by omega)
  try simp only [go_sem,seval,Gs,ZP,ck,e1,decide_true,decide_false]
  exact .mk (.refl _) (.refl _) ⟨⟨_,rfl,fun h=>by cases h⟩,rfl⟩
end Go.Vx
end
section
set_option maxRecDepth 100000
namespace Go.Vx
open Go.Proofs
abbrev YX:Str:={ data:=#[112,108,117,115] }
abbrev sEq:Str:={ data:=#[101,113] }
abbrev sZ:Str:={ data:=#[122] }
abbrev sS:Str:={ data:=#[115] }
abbrev aT:Str:={ data:=#[110,97,116] }
def XI (s:Str)(l:List Tm):Tm:=.mk 1 0 s l
def Yl (n:Int):Tm:=.mk 4 n ZS []
def X9 (name:Str)(vars:Nat)(l:List Tm):FGroup:=⟨[],[⟨List.replicate vars (.mk aT []),[],List.replicate vars 3,name,l,[],[]⟩]⟩
def sampleF:Flat:=⟨[X9 YX 1 [XI sZ [],Yl 0,Yl 0],X9 YX 3 [XI sS [Yl 0],Yl 1,XI sS [Yl 2]],X9 sEq 1 [Yl 0,Yl 0]],[0,1,2]⟩
theorem GB:YI sampleF YX=[⟨0,0⟩,⟨1,0⟩]:=by kernel_rfl
theorem LF:Xf sampleF YX=([⟨0,0⟩,⟨1,0⟩],3,0):=by kernel_rfl
theorem Id:Rw sampleF YX=([0,2],0):=by kernel_rfl
theorem GC:(YK sampleF YX).2=0:=by kernel_rfl
theorem DI:VP (YK sampleF YX).1 [XI sZ [],Yl 0,Yl 0]=([⟨0,0⟩],0):=by kernel_rfl
theorem DH:VP (YK sampleF YX).1 [Yl 0,XI sZ [],XI sS [XI sZ []]]=([⟨0,0⟩,⟨1,0⟩],0):=by kernel_rfl
theorem DG:VP (YK sampleF YX).1 [XI sS [XI sZ []],XI sZ [],XI sZ []]=([],0):=by kernel_rfl
theorem DK:UF sampleF YX (.mk 1 [⟨0,0⟩,⟨1,0⟩] 0 [] [] [])=230:=by kernel_rfl
theorem DJ:UF sampleF YX (YK sampleF YX).1=0:=by kernel_rfl
theorem ON:trN (YK sampleF YX).1≤bigN:=by decide +kernel
end Go.Vx
end
section
set_option maxRecDepth 100000
namespace Go.Vx
open Go.Proofs
theorem aF:(Zl Tryz.prog 52=some (.agg #[(.int .i64 0),(.int .i64 0),(.string ⟨#[]⟩),(.slice none 0 0)]))∧(Yx Tryz.prog 52=some [(0,1),(1,1),(2,1),(3,1)])∧(Zh Tryz.prog 52=some 4)∧(Ze Tryz.prog 52=some true):=by
 refine ⟨?_,?_,?_,?_⟩<;>first | trivial | kernel_rfl
theorem aN:(Zl Tryz.prog 52=some (.agg #[(.int .i64 0),(.int .i64 0),(.string ⟨#[]⟩),(.slice none 0 0)]))∧(Yx Tryz.prog 52=some [(0,1),(1,1),(2,1),(3,1)])∧(Zh Tryz.prog 52=some 4)∧(Ze Tryz.prog 52=some true):=by
 refine ⟨?_,?_,?_,?_⟩<;>first | trivial | kernel_rfl
theorem Ly:(Zl Tryz.prog 129=some (.agg #[(.slice none 0 0),(.slice none 0 0)]))∧(Zl Tryz.prog 132=some (.agg #[(.slice none 0 0),(.slice none 0 0),(.slice none 0 0),(.string ⟨#[]⟩),(.slice none 0 0),(.slice none 0 0),(.slice none 0 0)]))∧(Yx Tryz.prog 132=some [(0,1),(1,1),(2,1),(3,1),(4,1),(5,1),(6,1)])∧(Zh Tryz.prog 132=some 7)∧(Zz Tryz.prog 132 0=some 0)∧(Zh Tryz.prog 126=some 1)∧(Ze Tryz.prog 126=some false)∧(Zl Tryz.prog 150=some (.agg #[(.string ⟨#[]⟩),(.slice none 0 0)]))∧(Yx Tryz.prog 150=some [(0,1),(1,1)])∧(ZA Tryz.prog 126=some 150)∧(Zh Tryz.prog 150=some 2)∧(Zz Tryz.prog 132 2=some 2)∧(Zh Tryz.prog 23=some 1)∧(Ze Tryz.prog 23=some false)∧(ZA Tryz.prog 23=some 3)∧(Zh Tryz.prog 3=some 1)∧(Zl Tryz.prog 3=some (.int .i64 0))∧(Ze Tryz.prog 132=some true)∧(ZA Tryz.prog 127=some 132)∧(Yx Tryz.prog 129=some [(0,1),(1,1)])∧(Zh Tryz.prog 129=some 2)∧(Ze Tryz.prog 129=some true)∧(ZQ Tryz.prog 150=some 40)∧(ZQ Tryz.prog 3=some 8):=by
 refine ⟨?_,?_,?_,?_,?_,?_,?_,?_,?_,?_,?_,?_,?_,?_,?_,?_,?_,?_,?_,?_,?_,?_,?_,?_⟩<;>first | trivial | kernel_rfl
theorem Tj:(Zl Tryz.prog 25=some (.agg #[(.slice none 0 0),(.slice none 0 0)]))∧(ZA Tryz.prog 33=some 52)∧(Zh Tryz.prog 52=some 4)∧(Zl Tryz.prog 52=some (.agg #[(.int .i64 0),(.int .i64 0),(.string ⟨#[]⟩),(.slice none 0 0)]))∧(ZA Tryz.prog 22=some 129)∧(Zh Tryz.prog 129=some 2)∧(Zl Tryz.prog 129=some (.agg #[(.slice none 0 0),(.slice none 0 0)]))∧(ZA Tryz.prog 23=some 3)∧(Zh Tryz.prog 3=some 1)∧(Zl Tryz.prog 3=some (.int .i64 0))∧(Yx Tryz.prog 25=some [(0,1),(1,1)])∧(Zh Tryz.prog 25=some 2)∧(Ze Tryz.prog 25=some true):=by
 refine ⟨?_,?_,?_,?_,?_,?_,?_,?_,?_,?_,?_,?_,?_⟩<;>first | trivial | kernel_rfl
def K8 (v w:AV):Prop:=∀ b e c s es b' e' c' s' es',v=.list (.tip b e c) s es→w=.list (.tip b' e' c') s' es'→b≠b'
theorem LV.append3 {sz sz2 by_:Nat}{z:Value}{σ0 S:Store}{v w:AV}{es ys es2:List (List AV)}{r2:Rt}{s2:Nat}{K:AV→Store→Prop}(h:LV σ0 S v sz es)(h2':LV σ0 S w sz2 es2)(hx:K8 v w)
 (hzs:z.cells.size=sz) (hb5:by_≤512) (hl:es.length+ys.length≤137438953472) (h2:s2=sz) (hne:ys≠[]) (hH:Has σ0 S) (k:∀ v' S',LV σ0 S' v' sz (es++ys)→LV σ0 S' w sz2 es2→K8 v' w→Se S S'→Has σ0 S'→K v' S'):apZ (some sz) (some z) (some by_) v (.list r2 s2 ys) S K:=by
 obtain ⟨rt,s',rfl,hsz,ht⟩:=h
 obtain ⟨rt2,s2',rfl,hsz2,ht2⟩:=h2'
 have go:∀ (S1:Store) (b e c:Nat),(S1=S∨∃ b0 e0 c0,rt=.tip b0 e0 c0∧S.get b0=some (.tail e0 c0)∧Zx σ0 b0∧S1=S.del b0)→Zx S1 b→K (.list (.tip b e c) sz (es++ys)) ((b,.tail e c)::S1):=by
  intro S1 b e c hS1 hb
  have kept1:Se S S1:=by
   intro k x hk hx
   rcases hS1 with rfl | ⟨b0,e0,c0,_,hg,_,rfl⟩
   ·exact hk
   ·rw [Y6 (fun e=>by rw [e,hg] at hk;injection hk with hk;exact hx _ _ hk.symm)];exact hk
  have has1:Has σ0 S1:=by
   intro p hp
   rcases hS1 with rfl | ⟨b0,e0,c0,_,hg,hf,rfl⟩
   ·exact hH p hp
   ·obtain ⟨k,x⟩:=p
    exact Vc (hH _ hp) (Yv hf hp)
  have other:∀ tb te tc,rt2=.tip tb te tc→S.get tb=some (.tail te tc)→S1.get tb=some (.tail te tc):=by
   intro tb te tc he hg
   rcases hS1 with rfl | ⟨b0,e0,c0,hr,hg0,_,rfl⟩
   ·exact hg
   ·rw [Y6 (fun e=>hx _ _ _ _ _ _ _ _ _ _ (by rw [hr]) (by rw [he]) e.symm)];exact hg
  refine k _ _ ⟨_,_,rfl,.inl rfl,.inr ⟨b,e,c,rfl,rfl,Zi _ _ _,has1.fresh hb⟩⟩ ⟨rt2,s2',rfl,hsz2,ht2.imp id (fun ⟨tb,te,tc,h1,h2,h3,h4⟩=>⟨tb,te,tc,h1,h2,by rw [Zy hb (by rw [other tb te tc h1 h3];rfl)];exact other tb te tc h1 h3,h4⟩)⟩ ?_ (kept1.trans (.cons hb _)) (has1.cons _)
  intro q1 q2 q3 q4 q5 q6 q7 q8 q9 q10 e1 e2
  injection e1 with e1 _ _
  injection e1 with e1 _ _
  injection e2 with e2 _ _
  subst e1
  rcases ht2 with ⟨hf,_⟩ | ⟨tb,te,tc,h1,_,h3,_⟩
  ·rw [hf] at e2;cases e2
  ·rw [h1] at e2
   injection e2 with e2 _ _
   subst e2
   exact Zt hb (other tb te tc h1 h3)
 unfold apZ
 refine ⟨hzs,hb5,by simp only [lim];exact hl,hsz,.inl h2,?_⟩
 rcases ht with ⟨rfl,rfl⟩ | ⟨b0,e0,c0,rfl,rfl,hg,hf⟩
 ·exact ⟨fun h=>absurd h hne,fun _ b e c hb=>go S b e c (.inl rfl) hb⟩
 ·exact ⟨hg,rfl,fun b e c hb=>go _ b e c (.inr ⟨b0,e0,c0,rfl,hg,hf,rfl⟩) hb⟩
theorem H0 {rt:Rt}{s s':Nat}{es:List (List AV)}(hs:s=s'∨es=[]):Wk (.list rt s es) (.list .none s' es):=by
 rcases hs with rfl | rfl
 ·exact .list _ _ _
 ·exact .nilA _ _ _
theorem MO (s:Str)(l:List Tm)(rt:Rt)(sz:Nat)(hs:sz=4∨l=[]):Pur Tryz.prog 47 [vs s,.list rt sz (cH l)] (.agg (XI s l).emb):=by
 intro σ
 refine Zc [] [] Tryz.func47 rfl (by kernel_rfl) ?_;rw [Tryz.ntmps47,Tryz.results47]
 try simp only [go_sem,seval,aF]
 intro b hb
 try simp only [go_sem,seval,aF]
 refine ZE (Wk.agg rfl (fun i c c' h h'=>?_)) ((Sub.refl _).skip _)
 simp only [XI,co] at h'
 match i with
 | 0=>simp at h h';subst h;subst h';exact .refl _
 | 1=>simp at h h';subst h;subst h';exact .refl _
 | 2=>simp at h h';subst h;subst h';exact .refl _
 | 3=>simp at h h';subst h;subst h';exact H0 (hs.imp id (fun h=>by rw [h];rfl))
 | i+4=>simp at h
theorem OO (n:Int):Pur Tryz.prog 20 [vi n] (.agg (Yl n).emb):=by
 intro σ
 refine Zc [] [] Tryz.func20 rfl (by kernel_rfl) ?_;rw [Tryz.ntmps20,Tryz.results20]
 try simp only [go_sem,seval,aN]
 intro b hb
 try simp only [go_sem,seval,aN]
 refine ZE (Wk.agg rfl (fun i c c' h h'=>?_)) ((Sub.refl _).skip _)
 simp only [Yl,co,cH] at h'
 match i with
 | 0=>simp at h h';subst h;subst h';exact .refl _
 | 1=>simp at h h';subst h;subst h';exact .refl _
 | 2=>simp at h h';subst h;subst h';exact .refl _
 | 3=>simp at h h';subst h;subst h';exact .nilA _ _ _
 | i+4=>simp at h
theorem SG (name:Str)(vars:Nat)(hv:vars≤1000)(l:List Tm)(rt:Rt)(sz:Nat)(hs:sz=4∨l=[]):Pur Tryz.prog 88 [vs name,vi vars,.list rt sz (cH l)] (.agg (X9 name vars l).emb):=by
 intro σ
 refine Zj.nodup (by kernel_rfl) (fun hnd=>?_)
 refine Zc [] [] Tryz.func88 rfl (by kernel_rfl) ?_;rw [Tryz.ntmps88,Tryz.results88]
 try simp only [go_sem,seval,Ly]
 intro b6 hb6 b7 hb7
 have n76:b7≠b6:=Ne.symm hb7.1
 try simp only [go_sem,seval,Ly]
 refine Zv (mu:=[]) (dr:=[]) [8,12,13,14,15,16,17,18,19,20,21,22,23,24,25,26,27] (fun x:Nat×AV×AV×Store=>[(8,vi x.1)]) (fun x=>x.2.2.2) (fun x=>x.1≤vars∧x.2.2.2.get b7=some (.cells [x.2.1,.list .full 0 [],x.2.2.1,vs name,.list rt sz (cH l),.list .full 0 [],.list .full 0 []])∧(∃ z,x.2.2.2.get b6=some (.cells [.list .full 0 [],z]))∧LV σ x.2.2.2 x.2.1 2 (List.replicate x.1 [vs aT,.list .full 0 []])∧LV σ x.2.2.2 x.2.2.1 1 (List.replicate x.1 [vi 3])∧K8 x.2.1 x.2.2.1∧Has σ x.2.2.2) (fun x=>vars-x.1) (0,.list .full 0 [],.list .full 0 [],_) (by kernel_rfl) ⟨by simp,Zi _ _ _,⟨_,by simp only;rw [Za n76,Zi]⟩,LV.nil _ _ _,LV.nil _ _ _,(by intro _ _ _ _ _ _ _ _ _ _ h _;simp at h),((Has.refl σ).cons _).cons _⟩ ⟨.refl _,trivial⟩ (.refl _) ?_
 rintro ⟨i,v,w,S⟩ ⟨i1,i2,⟨z,i3⟩,i4,i5,i6,i7⟩
 simp only at i1 i2 i3 i4 i5 i6 i7
 try simp only [go_sem,seval,Ly]
 refine ⟨fun h1=>?_,fun h1=>?_⟩
 ·try simp only [go_sem,seval,Ly,i2]
  refine ⟨rfl,i4.append3 i5 i6 rfl (by decide) (by rw [List.length_replicate];simp only [List.length_singleton];omega) rfl (by simp) i7 (fun v1 S1 hv1 hw1 hap1 hk1 hH1=>?_)⟩
  have k2:=hk1 _ _ i2 (by intro _ _ h;cases h)
  have k3:=hk1 _ _ i3 (by intro _ _ h;cases h)
  have k2t:∀ o,(S1.set b7 o).get b7=some o:=fun o=>Zd k2
  try simp only [go_sem,seval,Ly,k2,k2t,hv1.one,hv1.cells,hw1.one,hw1.cells]
  have hw1':=hw1.set k2 (by intro _ _ h;cases h) (.cells [v1,.list .full 0 [],w,vs name,.list rt sz (cH l),.list .full 0 [],.list .full 0 []])
  have hv1':=hv1.set k2 (by intro _ _ h;cases h) (.cells [v1,.list .full 0 [],w,vs name,.list rt sz (cH l),.list .full 0 [],.list .full 0 []])
  refine ⟨rfl,hw1'.append3 hv1' (fun b e c s es b' e' c' s' es' h h'=>Ne.symm (hap1 _ _ _ _ _ _ _ _ _ _ h' h)) rfl (by decide) (by rw [List.length_replicate];simp only [List.length_singleton];omega) rfl (by simp) (hH1.set hb7.2 _) (fun v2 S2 hv2 hw2 hap2 hk2 hH2=>?_)⟩
  have m2:=hk2 _ _ (k2t _) (by intro _ _ h;cases h)
  have m3:=hk2 _ _ (show (S1.set b7 _).get b6=_ by rw [Zb (Ne.symm n76)];exact k3) (by intro _ _ h;cases h)
  have m2t:∀ o,(S2.set b7 o).get b7=some o:=fun o=>Zd m2
  try simp only [go_sem,seval,Ly,m2,m2t,hv2.one,hv2.cells,hw2.one,hw2.cells]
  rw [show IntKind.i64.wrap ((i:Int)+1)=((i+1:Nat):Int) from Zp (by omega) (by omega)]
  refine .mk (i+1,v1,v2,_) ⟨by simp only;omega,m2t _,⟨_,by simp only;rw [Zb (Ne.symm n76)];exact m3⟩,?_,?_,fun b e c s es b' e' c' s' es' h h'=>Ne.symm (hap2 _ _ _ _ _ _ _ _ _ _ h' h),hH2.set hb7.2 _⟩ (by simp only;omega) ⟨.refl _,trivial⟩ (by repeat first | exact Zf.turn _ rfl | refine Zf.put rfl ?_) (.refl _)
  ·simp only;rw [List.replicate_succ'];exact hw2.set m2 (by intro _ _ h;cases h) _
  ·simp only;rw [List.replicate_succ'];exact hv2.set m2 (by intro _ _ h;cases h) _
 ·have hiv:i=vars:=by omega
  subst hiv
  have k3t:∀ o,(S.set b6 o).get b6=some o:=fun o=>Zd i3
  try simp only [go_sem,seval,Ly,i2,i3,k3t,i4.one,i4.cells,i5.one,i5.cells]
  refine ⟨rfl,.mk ?_ ((i7.set hb6 _).sub hnd) ⟨rfl,rfl⟩⟩
  refine Wk.agg rfl (fun j c c' h h'=>?_)
  simp only [X9,FGroup.emb,cK,FClause.emb,List.map_cons,List.map_nil,cJ,cN] at h'
  match j with
  | 0=>simp at h h';subst h;subst h';exact .nilA _ _ _
  | 1 =>
    simp at h h';subst h;subst h'
    refine (Wk.list _ _ _).trans (Wk.elems rfl (fun j2 e e' he he'=>?_))
    match j2 with
    | 0 =>
      simp at he he';subst he;subst he'
      refine ⟨rfl,fun j3 d d' hd hd'=>?_⟩
      match j3 with
      | 0 =>
        simp at hd hd';subst hd;subst hd'
        refine i4.wk.trans (Wk.elems (by simp [cj]) (fun j4 e e' he he'=>?_))
        obtain ⟨t,ht,rfl⟩:=cX he'
        rw [List.getElem?_replicate] at he ht
        split at he
        ·rename_i hlt
         rw [if_pos hlt] at ht
         injection he with he;injection ht with ht
         subst he;subst ht
         refine ⟨rfl,fun j5 d d' hd hd'=>?_⟩
         match j5 with
         | 0=>simp [cG] at hd hd';subst hd;subst hd';exact .refl _
         | 1=>simp [cG,cJ] at hd hd';subst hd;subst hd';exact .nilA _ _ _
         | j5+2=>simp at hd
        ·cases he
      | 1=>simp at hd hd';subst hd;subst hd';exact .nilA _ _ _
      | 2 =>
        simp at hd hd';subst hd;subst hd'
        exact i5.wk
      | 3=>simp at hd hd';subst hd;subst hd';exact .refl _
      | 4=>simp at hd hd';subst hd;subst hd';exact H0 (hs.imp id (fun h=>by rw [h];rfl))
      | 5=>simp at hd hd';subst hd;subst hd';exact .nilA _ _ _
      | 6=>simp at hd hd';subst hd;subst hd';exact .nilA _ _ _
      | j3+7=>simp at hd
    | j2+1=>simp at he
  | j+2=>simp at h
theorem GM:Pur Tryz.prog 46 [] (.agg sampleF.emb):=by
 intro σ
 have s0:=OO 0
 have s1:=OO 1
 have s2:=OO 2
 have cz:=MO sZ [] .full 0 (.inr rfl)
 have c0:=MO sS [Yl 0] .full 4 (.inl rfl)
 have c2:=MO sS [Yl 2] .full 4 (.inl rfl)
 have g1:=SG YX 1 (by omega) [XI sZ [],Yl 0,Yl 0] .full 4 (.inl rfl)
 have g2:=SG YX 3 (by omega) [XI sS [Yl 0],Yl 1,XI sS [Yl 2]] .full 4 (.inl rfl)
 have g3:=SG sEq 1 (by omega) [Yl 0,Yl 0] .full 4 (.inl rfl)
 obtain ⟨A1,hA1⟩:∃ A,A=cK (X9 YX 1 [XI sZ [],Yl 0,Yl 0]).alts:=⟨_,rfl⟩
 obtain ⟨A2,hA2⟩:∃ A,A=cK (X9 YX 3 [XI sS [Yl 0],Yl 1,XI sS [Yl 2]]).alts:=⟨_,rfl⟩
 obtain ⟨A3,hA3⟩:∃ A,A=cK (X9 sEq 1 [Yl 0,Yl 0]).alts:=⟨_,rfl⟩
 have e1:(X9 YX 1 [XI sZ [],Yl 0,Yl 0]).emb=[.list .none 2 [],.list .none 7 A1]:=by rw [hA1];rfl
 have e2:(X9 YX 3 [XI sS [Yl 0],Yl 1,XI sS [Yl 2]]).emb=[.list .none 2 [],.list .none 7 A2]:=by rw [hA2];rfl
 have e3:(X9 sEq 1 [Yl 0,Yl 0]).emb=[.list .none 2 [],.list .none 7 A3]:=by rw [hA3];rfl
 have hem:sampleF.emb=[.list .none 2 [[.list .none 2 [],.list .none 7 A1],[.list .none 2 [],.list .none 7 A2],[.list .none 2 [],.list .none 7 A3]],.list .none 1 [[vi 0],[vi 1],[vi 2]]]:=by
  rw [hA1,hA2,hA3];rfl
 rw [e1] at g1
 rw [e2] at g2
 rw [e3] at g3
 rw [hem]
 clear hem e1 e2 e3 hA1 hA2 hA3
 simp only [Yl,XI,co,cH] at s0 s1 s2 cz c0 c2 g1 g2 g3
 refine Zc [] [] Tryz.func46 rfl (by kernel_rfl) ?_;rw [Tryz.ntmps46,Tryz.results46]
 refine fx ?_
 intro b hb
 refine fx ?_
 refine cz.use ?_
 refine fx ?_
 refine s0.use ?_
 refine fx ?_
 refine s0.use ?_
 refine fx ?_
 refine ⟨rfl,g1.use ?_⟩
 refine fx ?_
 refine s0.use ?_
 refine fx ?_
 refine ⟨rfl,c0.use ?_⟩
 refine fx ?_
 refine s1.use ?_
 refine fx ?_
 refine s2.use ?_
 refine fx ?_
 refine ⟨rfl,c2.use ?_⟩
 refine fx ?_
 refine ⟨rfl,g2.use ?_⟩
 refine fx ?_
 refine s0.use ?_
 refine fx ?_
 refine s0.use ?_
 refine fx ?_
 refine ⟨rfl,g3.use ?_⟩
 refine fx ?_
 refine ⟨rfl,rfl,ZE (Wk.agg rfl (fun j c c' h h'=>?_)) ((Sub.refl _).skip _)⟩
 match j with
 | 0=>simp at h h';subst h;subst h';exact .list _ _ _
 | 1=>simp at h h';subst h;subst h';exact .list _ _ _
 | j+2=>simp at h
end Go.Vx
end
