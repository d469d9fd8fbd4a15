/- Part Q21 of the proof of treeLooksProved: the walk of the program on abstract values, and the plain law. -/
import Derived.Test.YtmedmnondjmleaaGreatQ19
import Derived.Test.YtmedmnondjmleaaGreatQ20
import Derived.Test.YtmedmnondjmleaaGreatQ16
set_option linter.unusedVariables false
set_option linter.unusedSimpArgs false
section
set_option maxRecDepth 100000
namespace Go.Vx
open Go.Proofs
theorem RU:(Zz Tryz.prog 52 0=some 0)∧(Zh Tryz.prog 3=some 1)∧(Ze Tryz.prog 3=some false)∧(Zz Tryz.prog 52 1=some 1)∧(Zz Tryz.prog 52 2=some 2)∧(Zh Tryz.prog 9=some 1)∧(Ze Tryz.prog 9=some false)∧(Zz Tryz.prog 52 3=some 3)∧(Zh Tryz.prog 33=some 1)∧(Ze Tryz.prog 33=some false)∧(Tryz.prog.underlying 33=some (.slice 52)):=by
 refine ⟨?_,?_,?_,?_,?_,?_,?_,?_,?_,?_,?_⟩<;>first | trivial | kernel_rfl
theorem H9:(Zh Tryz.prog 52=some 4)∧(Ze Tryz.prog 52=some true):=by
 refine ⟨?_,?_⟩<;>first | trivial | kernel_rfl
theorem Jn:(Zl Tryz.prog 165=some .nilFunc)∧(Zh Tryz.prog 165=some 1)∧(Ze Tryz.prog 165=some false)∧(Zh Tryz.prog 52=some 4)∧(Ze Tryz.prog 52=some true):=by
 refine ⟨?_,?_,?_,?_,?_⟩<;>first | trivial | kernel_rfl
theorem TE:(Zh Tryz.prog 52=some 4)∧(Ze Tryz.prog 52=some true)∧(Zz Tryz.prog 52 3=some 3)∧(Zh Tryz.prog 33=some 1)∧(Ze Tryz.prog 33=some false)∧(ZA Tryz.prog 33=some 52)∧(Zl Tryz.prog 52=some (.agg #[(.int .i64 0),(.int .i64 0),(.string ⟨#[]⟩),(.slice none 0 0)]))∧(Zh Tryz.prog 165=some 1)∧(Ze Tryz.prog 165=some false)∧(Tryz.prog.underlying 33=some (.slice 52)):=by
 refine ⟨?_,?_,?_,?_,?_,?_,?_,?_,?_,?_⟩<;>first | trivial | kernel_rfl
theorem U8:(Zh Tryz.prog 52=some 4)∧(Ze Tryz.prog 52=some true)∧(Zz Tryz.prog 52 0=some 0)∧(Zh Tryz.prog 3=some 1)∧(Ze Tryz.prog 3=some false)∧(Zz Tryz.prog 52 3=some 3)∧(Zh Tryz.prog 33=some 1)∧(Ze Tryz.prog 33=some false)∧(ZA Tryz.prog 33=some 52)∧(Zl Tryz.prog 52=some (.agg #[(.int .i64 0),(.int .i64 0),(.string ⟨#[]⟩),(.slice none 0 0)]))∧(Tryz.prog.underlying 33=some (.slice 52)):=by
 refine ⟨?_,?_,?_,?_,?_,?_,?_,?_,?_,?_,?_⟩<;>first | trivial | kernel_rfl
theorem Jf:(Zh Tryz.prog 52=some 4)∧(Ze Tryz.prog 52=some true)∧(Zl Tryz.prog 4=some (.bool false))∧(Zh Tryz.prog 4=some 1)∧(Ze Tryz.prog 4=some false):=by
 refine ⟨?_,?_,?_,?_,?_⟩<;>first | trivial | kernel_rfl
theorem Jd:(Zh Tryz.prog 4=some 1)∧(Ze Tryz.prog 4=some false)∧(Zz Tryz.prog 52 0=some 0)∧(Zh Tryz.prog 3=some 1)∧(Ze Tryz.prog 3=some false)∧(Zz Tryz.prog 52 1=some 1):=by
 refine ⟨?_,?_,?_,?_,?_,?_⟩<;>first | trivial | kernel_rfl
abbrev ZN (s:Str):Bool:=YP 1 s
abbrev ZS:Str:={ data:=#[] }
def S3 (k n:Int)(s:Str)(len:Nat):Bool :=
 if k=1 then decide (n=0)&&ZN s&&decide (len≤8)
 else if k=2∨k=3∨k=4 then decide (0≤n)&&decide (n≤100000)&&decide (s=ZS)&&decide (len≤8)
 else decide (k=5)&&decide (n=0)&&decide (s=ZS)&&decide (len=1)
theorem Ao (k n:Int)(s:Str)(l:List Tm):Pur Tryz.prog 105 [.agg (Tm.mk k n s l).emb] (vb (S3 k n s l.length)):=by
 intro σ
 have hl8:((l.length:Int)≤8)=(l.length≤8):=by simp only [eq_iff_iff];omega
 have hl1:((l.length:Int)=1)=(l.length=1):=by simp only [eq_iff_iff];omega
 simp only [co]
 refine Zc [] [] Tryz.func105 rfl (by kernel_rfl) ?_;rw [Tryz.ntmps105,Tryz.results105]
 by_cases k1:k=1
 ·subst k1
  have hd:S3 1 n s l.length=(decide (n=0)&&YP 1 s&&decide (l.length≤8)):=by simp [S3]
  rw [hd]
  refine iA ?_
  refine ⟨fun h=>?_,fun h=>?_⟩
  ·refine (FT s).use ?_
   cases YP 1 s with
   | true =>
     refine iA ?_
     exact ZC (by simp [h])
   | false =>
     refine iA ?_
     exact ZC (by simp)
  ·exact ZC (by simp [h])
 ·by_cases k2:k=2∨k=3∨k=4
  ·have hd:S3 k n s l.length=(decide (0≤n)&&decide (n≤100000)&&decide (s=ZS)&&decide (l.length≤8)):=by simp [S3,k1,k2]
   rw [hd]
   rcases k2 with rfl | rfl | rfl
   ·refine iA ?_
    refine ⟨fun h=>⟨fun h2=>⟨fun h3=>ZC ?_,fun h3=>ZC ?_⟩,fun h2=>ZC ?_⟩,fun h=>ZC ?_⟩<;>(try simp_all)<;>(try (intros;omega))
   ·refine iA ?_
    refine ⟨fun h=>⟨fun h2=>⟨fun h3=>ZC ?_,fun h3=>ZC ?_⟩,fun h2=>ZC ?_⟩,fun h=>ZC ?_⟩<;>(try simp_all)<;>(try (intros;omega))
   ·refine iA ?_
    refine ⟨fun h=>⟨fun h2=>⟨fun h3=>ZC ?_,fun h3=>ZC ?_⟩,fun h2=>ZC ?_⟩,fun h=>ZC ?_⟩<;>(try simp_all)<;>(try (intros;omega))
  ·have hd:S3 k n s l.length=(decide (k=5)&&decide (n=0)&&decide (s=ZS)&&decide (l.length=1)):=by simp [S3,k1,k2]
   rw [hd]
   have a2:¬ k=2:=fun h=>k2 (.inl h)
   have a3:¬ k=3:=fun h=>k2 (.inr (.inl h))
   have a4:¬ k=4:=fun h=>k2 (.inr (.inr h))
   try simp only [go_sem,seval,RU,ci,hl1,k1,a2,a3,a4,decide_false]
   refine ⟨fun h=>⟨fun h2=>⟨fun h3=>ZC ?_,fun h3=>ZC ?_⟩,fun h2=>ZC ?_⟩,fun h=>ZC ?_⟩<;>(try simp_all)<;>(try (intros;omega))
mutual
def Pk:Tm→Bool
 | .mk k n s l=>S3 k n s l.length&&Ta l
def Ta:List Tm→Bool
 | []=>true
 | t::r=>Pk t&&Ta r
end
theorem P3 (l m:List Tm):Ta (l++m)=(Ta l&&Ta m):=by
 induction l with
 | nil=>rfl
 | cons a r ih=>simp only [List.cons_append,Ta,ih,Bool.and_assoc]
def aV (bw:Nat):Value:=.func (.func 103) #[] #[.pointer (some ⟨bw,0,none⟩)]
theorem Im (bw:Nat):∀ (t:Tm) (σ:Store),σ.get bw=some (.cells [.val (aV bw)]) →
 Zj Tryz.prog 103 [.agg t.emb,.val (.pointer (some ⟨bw,0,none⟩))] σ (fun r σ'=>σ'=σ∧r=if Pk t then .ret (.tup []) else .pan (YE 6)):=by
 intro t
 induction t using dE with | h k n s l ih=>?_
 intro σ gw
 have hnode:=Ao k n s l
 refine Zj.ok (by kernel_rfl) (fun hok=>?_)
 have hlen:=(((hok _ List.mem_cons_self).agg (c:=.list .none 4 (cH l)) (by simp [co])).len)
 rw [ci] at hlen
 clear hok
 simp only [co] at hnode ⊢
 refine Zc [] [] Tryz.func103 rfl (by kernel_rfl) ?_;rw [Tryz.ntmps103,Tryz.results103]
 try simp only [go_sem,seval,TE]
 refine hnode.use ?_
 try simp only [go_sem,seval,TE]
 refine VA (fun hm=>?_) (fun hm=>?_)
 ·try simp only [go_sem,seval,TE]
  refine Zv (mu:=[]) (dr:=[]) [4,11,12,13,14,15,16,17,18] (fun i:Nat=>[(11,vi i)]) (fun _=>σ) (fun i=>i≤l.length∧Ta (l.take i)=true) (fun i=>l.length-i) 0 (by kernel_rfl) ⟨by omega,by simp [Ta]⟩ ⟨.refl _,trivial⟩ (.refl _) ?_
  rintro i ⟨hi,hr⟩
  try simp only [go_sem,seval,TE,ci]
  refine ⟨fun hi2=>⟨by omega,hi2,fun c hc=>?_⟩,fun hi2=>?_⟩
  ·rw [Int.toNat_natCast] at hc
   obtain ⟨a,ha,rfl⟩:=cR hc
   have iha:=ih a (List.mem_of_getElem? ha) σ gw
   obtain ⟨ka,na,sa,la⟩:=a
   try simp only [go_sem,seval,TE,co]
   intro b9 hb9
   try simp only [go_sem,seval,TE,co,hb9,gw,aV]
   refine (iha.sub (.cons _ _)).mono ?_
   have hsp:=Ys ha
   rintro r σ' ⟨h1,h2⟩
   rw [h1,h2]
   cases hw:Pk (Tm.mk ka na sa la) with
   | true =>
     try simp only [go_sem,seval,TE]
     rw [show IntKind.i64.wrap ((i:Int)+1)=((i+1:Nat):Int) from Zp (by omega) (by omega)]
     refine .mk (i+1) ⟨by omega,?_⟩ (by omega) ⟨.refl _,trivial⟩ (by repeat first | exact Zf.turn _ rfl | refine Zf.put rfl ?_) (.refl _)
     rw [List.take_add_one,ha,Option.toList_some,P3,hr];simp [Ta,hw]
   | false =>
     try simp only [go_sem,seval,TE]
     refine .mk (.refl _) ⟨rfl,?_⟩
     have:Pk (.mk k n s l)=false:=by rw [Pk,hsp,P3];simp [Ta,hw]
     rw [this];rfl
  ·have hil:l.take i=l:=List.take_of_length_le (by omega)
   rw [hil] at hr
   refine .mk (.refl _) (.refl _) ⟨rfl,?_⟩
   rw [Pk,hr,hm];rfl
 ·try simp only [go_sem,seval,TE]
  refine .mk (.refl _) ⟨rfl,?_⟩
  rw [Pk,hm];rfl
def Ur (t:Tm):Int:=if XZ t.shape≠0 then XZ t.shape else if Pk t=true then 0 else 6
theorem Jy (t:Tm):Pur Tryz.prog 60 [.agg t.emb] (vi (Ur t)):=by
 intro σ
 have hsz:=LH t
 have hw:=fun bw=>Im bw t
 have hd:Ur t=if XZ t.shape≠0 then XZ t.shape else if Pk t=true then 0 else 6:=rfl
 rw [hd]
 generalize XZ t.shape=e at hsz ⊢
 generalize Pk t=rt at hw ⊢
 obtain ⟨k,n,s,l⟩:=t
 simp only [co] at hsz hw ⊢
 refine Zc [1] [] Tryz.func60 rfl (by kernel_rfl) ?_;rw [Tryz.ntmps60,Tryz.results60]
 try simp only [go_sem,seval,H9]
 intro b1 hb1
 try simp only [go_sem,seval,H9,hb1]
 refine hsz.use ?_
 try simp only [go_sem,seval,H9,hb1]
 refine ⟨fun q=>?_,fun q=>?_⟩
 ·rw [if_pos q]
  exact ZE (.refl _) (.cons _ _)
 ·rw [if_neg (not_not_intro q)]
  refine UQ _ _ _ (fun b hb=>?_)
  rw [Y5]
  have g1:Store.get ((b,AObj.cells [vi 0])::(b1,.cells [vi k,vi n,vs s,.list .none 4 (cH l)])::σ) b1=some (.cells [vi k,vi n,vs s,.list .none 4 (cH l)]):=by rw [Zy hb (by rw [Zi];rfl),Zi]
  have hk:∀ S:Store,S.get b1=some (.cells [vi k,vi n,vs s,.list .none 4 (cH l)])→Zj Tryz.prog 102 [.val (.pointer (some ⟨b1,0,none⟩))] S (fun r σ'=>σ'=S∧r=if rt then .ret (.tup []) else .pan (YE 6)):=by
   intro S gS
   refine Zc [] [] Tryz.func102 rfl (by kernel_rfl) ?_;rw [Tryz.ntmps102,Tryz.results102]
   try simp only [go_sem,seval,Jn]
   intro bw hbw
   try simp only [go_sem,seval,Jn,hbw,gS]
   refine (hw bw _ (by rw [Zi];rfl)).mono ?_
   rintro r σ' ⟨h1,h2⟩
   rw [h1,h2]
   cases rt with
   | true =>
     try simp only [go_sem,seval,Jn]
     exact ik
   | false =>
     try simp only [go_sem,seval,Jn]
     exact .mk (.cons _ _) ⟨rfl,rfl⟩
  refine (hk _ g1).mono ?_
  rintro r σ' ⟨h1,h2⟩
  refine ⟨_,h1,?_⟩
  rw [h2]
  cases rt with
  | true =>
    try simp only [go_sem,seval,H9]
    exact ZE (.refl _) (.cons _ _)
  | false =>
    refine ⟨6,rfl,?_⟩
    try simp only [go_sem,seval,H9]
    exact ZE (.refl _) (.cons _ _)
mutual
def Xd:Tm→Int→List (Tm×Int)
 | .mk k n s l,b=>(.mk k n s l,b)::ZV l (if k=5 then IntKind.i64.wrap (b+1) else b)
def ZV:List Tm→Int→List (Tm×Int)
 | [],_=>[]
 | t::r,b=>Xd t b++ZV r b
end
theorem Vb (l m:List Tm)(b:Int):ZV (l++m) b=ZV l b++ZV m b:=by
 induction l with
 | nil=>rfl
 | cons a r ih=>simp only [List.cons_append,ZV,ih,List.append_assoc]
theorem Ex (f:Value)(Pp:Nat→Store→Prop):∀ (t:Tm) (b:Int) (i0:Nat) (S:Store),Pp i0 S→(∀ (j:Nat) (p:Tm×Int) (S:Store),(Xd t b)[j]?=some p→Pp (i0+j) S→ZX Tryz.prog (.val f) [.agg p.1.emb,vi p.2] S (fun r σ'=>r=.ret (.tup [])∧Pp (i0+j+1) σ')) →
 Zj Tryz.prog 257 [.agg t.emb,vi b,.val f] S (fun r σ'=>r=.ret (.tup [])∧Pp (i0+(Xd t b).length) σ'):=by
 intro t
 induction t using dE with | h k n s l ih=>?_
 intro b i0 S hP hf
 refine Zj.ok (by kernel_rfl) (fun hok=>?_)
 have hlen:=(((hok _ List.mem_cons_self).agg (c:=.list .none 4 (cH l)) (by simp [co])).len)
 rw [ci] at hlen
 clear hok
 have hf0:=hf 0 _ S (by rw [Xd];rfl) hP
 simp only [co,Nat.add_zero] at hf0 ⊢
 refine Zc [] [] Tryz.func257 rfl (by kernel_rfl) ?_;rw [Tryz.ntmps257,Tryz.results257]
 try simp only [go_sem,seval,U8]
 refine hf0.mono ?_
 rintro r S1 ⟨h1,hP1⟩
 rw [h1]
 obtain ⟨b',hb'⟩:∃ b':Int,b'=if k=5 then IntKind.i64.wrap (b+1) else b:=⟨_,rfl⟩
 have hfl:∀ (j:Nat) (p:Tm×Int) (S:Store),(ZV l b')[j]?=some p→Pp (i0+1+j) S→ZX Tryz.prog (.val f) [.agg p.1.emb,vi p.2] S (fun r σ'=>r=.ret (.tup [])∧Pp (i0+1+j+1) σ'):=by
  intro j p S hj hS
  have:=hf (j+1) p S (by rw [Xd,← hb'];simpa using hj) (by rw [show i0+(j+1)=i0+1+j by omega];exact hS)
  rw [show i0+1+j=i0+(j+1) by omega]
  exact this
 have hn:(Xd (.mk k n s l) b).length=1+(ZV l b').length:=by rw [Xd,← hb',List.length_cons];omega
 rw [hn]
 try simp only [go_sem,seval,U8]
 refine ⟨fun hk=>?_,fun hk=>?_⟩
 ·rw [if_pos hk] at hb'
  rw [← hb']
  refine Zv (mu:=[]) (dr:=[]) [7,20,21,22,23,24,25,26,27,28] (fun x:Nat×Store=>[(20,vi x.1)]) (fun x=>x.2) (fun x=>x.1≤l.length∧Pp (i0+1+(ZV (l.take x.1) b').length) x.2) (fun x=>l.length-x.1) (0,S1) (by kernel_rfl) ⟨by simp,hP1⟩ ⟨.refl _,trivial⟩ (.refl _) ?_
  rintro ⟨i,S⟩ ⟨hi,hPi⟩
  dsimp only at hi hPi
  try simp only [go_sem,seval,U8,ci]
  refine ⟨fun hi2=>⟨by omega,hi2,fun c hc=>?_⟩,fun hi2=>?_⟩
  ·rw [Int.toNat_natCast] at hc
   obtain ⟨a,ha,rfl⟩:=cR hc
   have hsp:=Ys ha
   have iha:=ih a (List.mem_of_getElem? ha) b' (i0+1+(ZV (l.take i) b').length) S hPi (fun j p S hj hS=>by
    have:=hfl ((ZV (l.take i) b').length+j) p S (by
     have hjl:=(List.getElem?_eq_some_iff.1 hj).1
     have e:ZV l b'=ZV (l.take i) b'++ZV (a::l.drop (i+1)) b':=by rw [← Vb,← hsp]
     rw [e,List.getElem?_append_right (by omega),Nat.add_sub_cancel_left,ZV,List.getElem?_append_left hjl]
     exact hj) (by rw [← Nat.add_assoc];exact hS)
    rw [show i0+1+(ZV (l.take i) b').length+j=i0+1+((ZV (l.take i) b').length+j) by omega]
    exact this)
   have hnx:(ZV (l.take (i+1)) b').length=(ZV (l.take i) b').length+(Xd a b').length:=by rw [List.take_add_one,ha,Option.toList_some,Vb];simp [ZV]
   obtain ⟨ka,na,sa,la⟩:=a
   try simp only [go_sem,seval,U8,co]
   intro b9 hb9
   try simp only [go_sem,seval,U8,co]
   refine (iha.sub (.cons _ _)).mono ?_
   rintro r S2 ⟨h1,h2⟩
   rw [h1]
   try simp only [go_sem,seval,U8]
   rw [show IntKind.i64.wrap ((i:Int)+1)=((i+1:Nat):Int) from Zp (by omega) (by omega)]
   refine .mk (i+1,S2) ⟨by dsimp only;omega,?_⟩ (by dsimp only;omega) ⟨.refl _,trivial⟩ (by repeat first | exact Zf.turn _ rfl | refine Zf.put rfl ?_) (.refl _)
   dsimp only
   rw [hnx,← Nat.add_assoc]
   exact h2
  ·have hil:l.take i=l:=List.take_of_length_le (by omega)
   rw [hil] at hPi
   exact .mk (.refl _) (.refl _) ⟨rfl,by rw [← Nat.add_assoc];exact hPi⟩
 ·rw [if_neg hk] at hb'
  subst hb'
  refine Zv (mu:=[]) (dr:=[]) [7,20,21,22,23,24,25,26,27,28] (fun x:Nat×Store=>[(20,vi x.1)]) (fun x=>x.2) (fun x=>x.1≤l.length∧Pp (i0+1+(ZV (l.take x.1) b').length) x.2) (fun x=>l.length-x.1) (0,S1) (by kernel_rfl) ⟨by simp,hP1⟩ ⟨.refl _,trivial⟩ (.refl _) ?_
  rintro ⟨i,S⟩ ⟨hi,hPi⟩
  dsimp only at hi hPi
  try simp only [go_sem,seval,U8,ci]
  refine ⟨fun hi2=>⟨by omega,hi2,fun c hc=>?_⟩,fun hi2=>?_⟩
  ·rw [Int.toNat_natCast] at hc
   obtain ⟨a,ha,rfl⟩:=cR hc
   have hsp:=Ys ha
   have iha:=ih a (List.mem_of_getElem? ha) b' (i0+1+(ZV (l.take i) b').length) S hPi (fun j p S hj hS=>by
    have:=hfl ((ZV (l.take i) b').length+j) p S (by
     have hjl:=(List.getElem?_eq_some_iff.1 hj).1
     have e:ZV l b'=ZV (l.take i) b'++ZV (a::l.drop (i+1)) b':=by rw [← Vb,← hsp]
     rw [e,List.getElem?_append_right (by omega),Nat.add_sub_cancel_left,ZV,List.getElem?_append_left hjl]
     exact hj) (by rw [← Nat.add_assoc];exact hS)
    rw [show i0+1+(ZV (l.take i) b').length+j=i0+1+((ZV (l.take i) b').length+j) by omega]
    exact this)
   have hnx:(ZV (l.take (i+1)) b').length=(ZV (l.take i) b').length+(Xd a b').length:=by rw [List.take_add_one,ha,Option.toList_some,Vb];simp [ZV]
   obtain ⟨ka,na,sa,la⟩:=a
   try simp only [go_sem,seval,U8,co]
   intro b9 hb9
   try simp only [go_sem,seval,U8,co]
   refine (iha.sub (.cons _ _)).mono ?_
   rintro r S2 ⟨h1,h2⟩
   rw [h1]
   try simp only [go_sem,seval,U8]
   rw [show IntKind.i64.wrap ((i:Int)+1)=((i+1:Nat):Int) from Zp (by omega) (by omega)]
   refine .mk (i+1,S2) ⟨by dsimp only;omega,?_⟩ (by dsimp only;omega) ⟨.refl _,trivial⟩ (by repeat first | exact Zf.turn _ rfl | refine Zf.put rfl ?_) (.refl _)
   dsimp only
   rw [hnx,← Nat.add_assoc]
   exact h2
  ·have hil:l.take i=l:=List.take_of_length_le (by omega)
   rw [hil] at hPi
   exact .mk (.refl _) (.refl _) ⟨rfl,by rw [← Nat.add_assoc];exact hPi⟩
theorem AD (f:Value)(St:Nat→Store)(t:Tm)(b:Int)(i0:Nat)(hf:∀ (j:Nat) (p:Tm×Int),(Xd t b)[j]?=some p→ZX Tryz.prog (.val f) [.agg p.1.emb,vi p.2] (St (i0+j)) (fun r σ'=>r=.ret (.tup [])∧σ'=St (i0+j+1))) :
 Zj Tryz.prog 257 [.agg t.emb,vi b,.val f] (St i0) (fun r σ'=>r=.ret (.tup [])∧σ'=St (i0+(Xd t b).length)) :=
 Ex f (fun i S=>S=St i) t b i0 (St i0) rfl (fun j p S hj hS=>by rw [hS];exact hf j p hj)
def T7 (t:Tm):Bool:=decide (Ur t=0)&&(Xd t 0).all (fun p=>match p.1 with | .mk k n _ _=>!decide (k=2) || decide (n<p.2))
def UU (l:List (Tm×Int)):Bool:=l.all (fun p=>match p.1 with | .mk k n _ _=>!decide (k=2) || decide (n<p.2))
theorem EH (t:Tm):Pur Tryz.prog 219 [.agg t.emb] (vb (T7 t)):=by
 intro σ
 have hr:=Jy t
 have hn:=fun b St=>AD (.func (.func 258) #[] #[.pointer (some ⟨b,0,none⟩)]) St t 0 0
 have hd:T7 t=(decide (Ur t=0)&&UU (Xd t 0)):=rfl
 rw [hd]
 generalize Ur t=e at hr ⊢
 generalize Xd t 0=L at hn ⊢
 obtain ⟨k,n,s,l⟩:=t
 simp only [co] at hr hn ⊢
 refine Zc [] [] Tryz.func219 rfl (by kernel_rfl) ?_;rw [Tryz.ntmps219,Tryz.results219]
 try simp only [go_sem,seval,Jf]
 refine hr.use ?_
 try simp only [go_sem,seval,Jf]
 refine ⟨fun q=>ZC (by simp [q]),fun q=>?_⟩
 intro b hb
 try simp only [go_sem,seval,Jf]
 refine (hn b (fun i=>(b,.cells [vb (UU (L.take i))])::σ) (fun j p hj=>?_)).mono ?_
 ·rw [Y5,Nat.zero_add]
  obtain ⟨⟨k',n',s',l'⟩,c⟩:=p
  simp only [co]
  have hnx:UU (L.take (j+1))=(UU (L.take j)&&(!decide (k'=2) || decide (n'<c))):=by rw [List.take_add_one,hj];simp [UU]
  rw [hnx]
  cases hc:UU (L.take j) with
  | true =>
    refine Zc [] [] Tryz.func258 rfl (by kernel_rfl) ?_;rw [Tryz.ntmps258,Tryz.results258]
    try simp only [go_sem,seval,Jd]
    refine ⟨fun h1=>?_,fun h1=>?_⟩
    ·try simp only [go_sem,seval,Jd,h1]
     refine .mk (.refl _) (.refl _) ⟨rfl,?_⟩
     by_cases k2:k'=2<;>simp_all
    ·try simp only [go_sem,seval,Jd]
     refine .mk (.refl _) (.refl _) ⟨rfl,?_⟩
     by_cases k2:k'=2<;>simp_all
  | false =>
    refine Zc [] [] Tryz.func258 rfl (by kernel_rfl) ?_;rw [Tryz.ntmps258,Tryz.results258]
    try simp only [go_sem,seval,Jd]
    exact gG
 ·rintro r σ' ⟨h1,h2⟩
  rw [h1,h2]
  try simp only [go_sem,seval,Jf]
  rw [List.take_of_length_le (by omega)]
  exact .mk (.refl _) (.cons _ _) ⟨by simp [q],rfl⟩
end Go.Vx
end
section
set_option maxRecDepth 100000
namespace Go.Vx
open Go.Proofs
theorem RQ:(Zh Tryz.prog 52=some 4)∧(Ze Tryz.prog 52=some true)∧(Zl Tryz.prog 23=some (.slice none 0 0))∧(Zl Tryz.prog 141=some (.map none))∧(Zh Tryz.prog 141=some 1)∧(Zh Tryz.prog 23=some 1)∧(Ze Tryz.prog 23=some false):=by
 refine ⟨?_,?_,?_,?_,?_,?_,?_⟩<;>first | trivial | kernel_rfl
theorem Um:(Zz Tryz.prog 52 0=some 0)∧(Zh Tryz.prog 3=some 1)∧(Ze Tryz.prog 3=some false)∧(Zh Tryz.prog 141=some 1)∧(Ze Tryz.prog 141=some false)∧(Zz Tryz.prog 52 1=some 1)∧(Tryz.prog.underlying 141=some (.map 3 4))∧(Tryz.prog.underlying 3=some (.int .i64))∧(Zl Tryz.prog 4=some (.bool false))∧(Zh Tryz.prog 23=some 1)∧(Ze Tryz.prog 23=some false)∧(ZA Tryz.prog 23=some 3)∧(Zl Tryz.prog 3=some (.int .i64 0))∧(ZQ Tryz.prog 3=some 8):=by
 refine ⟨?_,?_,?_,?_,?_,?_,?_,?_,?_,?_,?_,?_,?_,?_⟩<;>first | trivial | kernel_rfl
theorem Bo:(Zh Tryz.prog 52=some 4)∧(Ze Tryz.prog 52=some true):=by
 refine ⟨?_,?_⟩<;>first | trivial | kernel_rfl
theorem Bp:(Zh Tryz.prog 52=some 4)∧(Ze Tryz.prog 52=some true):=by
 refine ⟨?_,?_⟩<;>first | trivial | kernel_rfl
theorem We:(Tryz.prog.underlying 226=some (.map 3 4))∧(Tryz.prog.underlying 3=some (.int .i64))∧(Zl Tryz.prog 4=some (.bool false)):=by
 refine ⟨?_,?_,?_⟩<;>first | trivial | kernel_rfl
theorem WP:(ZA Tryz.prog 33=some 52)∧(Zh Tryz.prog 52=some 4)∧(Ze Tryz.prog 52=some true)∧(Zl Tryz.prog 52=some (.agg #[(.int .i64 0),(.int .i64 0),(.string ⟨#[]⟩),(.slice none 0 0)]))∧(Tryz.prog.underlying 33=some (.slice 52))∧(Tryz.prog.underlying 23=some (.slice 3)):=by
 refine ⟨?_,?_,?_,?_,?_,?_⟩<;>first | trivial | kernel_rfl
theorem PQ:(Zh Tryz.prog 226=some 1)∧(Ze Tryz.prog 226=some false)∧(Tryz.prog.underlying 226=some (.map 3 4))∧(Tryz.prog.underlying 3=some (.int .i64))∧(Zl Tryz.prog 4=some (.bool false)):=by
 refine ⟨?_,?_,?_,?_,?_⟩<;>first | trivial | kernel_rfl
theorem aL:(True):=by
 first | trivial | kernel_rfl
mutual
def cnt:Ro→Nat
 | .mk l=>Kx l+1
def Kx:List Ro→Nat
 | []=>0
 | t::r=>cnt t+Kx r
end
mutual
theorem HZ:∀ (t:Ro) (lv c d c' d':Int),wlk t lv (c,d)=(true,(c',d'))→d≤d'
 | .mk l,lv,c,d,c',d',h=>by
   simp only [wlk] at h
   split at h
   ·split at h
    ·have:=Sg l (lv+1) (c+1) (max d lv) c' d' h;omega
    ·simp at h;omega
   ·simp at h
theorem Sg:∀ (l:List Ro) (lv c d c' d':Int),Xq l lv (c,d)=(true,(c',d'))→d≤d'
 | [],lv,c,d,c',d',h=>by simp only [Xq] at h;injection h with _ h;injection h with h1 h2;omega
 | t::r,lv,c,d,c',d',h=>by
   simp only [Xq] at h
   cases hw:wlk t lv (c,d) with
   | mk b q =>
     obtain ⟨c1,d1⟩:=q
     rw [hw] at h
     cases b with
     | true=>have h1:=HZ t lv c d c1 d1 hw;have h2:=Sg r lv c1 d1 c' d' h;omega
     | false=>simp at h
end
mutual
theorem Ja:∀ (t:Ro) (lv c d c' d':Int),wlk t lv (c,d)=(true,(c',d'))→d'≤100→c'=c+cnt t
 | .mk l,lv,c,d,c',d',h,hd=>by
   simp only [wlk] at h
   split at h
   ·split at h
    ·have:=NO l (lv+1) (c+1) (max d lv) c' d' h hd;simp only [cnt];omega
    ·simp at h;omega
   ·simp at h
theorem NO:∀ (l:List Ro) (lv c d c' d':Int),Xq l lv (c,d)=(true,(c',d'))→d'≤100→c'=c+Kx l
 | [],lv,c,d,c',d',h,hd=>by simp only [Xq] at h;injection h with _ h;injection h with h1 h2;simp [Kx];omega
 | t::r,lv,c,d,c',d',h,hd=>by
   simp only [Xq] at h
   cases hw:wlk t lv (c,d) with
   | mk b q =>
     obtain ⟨c1,d1⟩:=q
     rw [hw] at h
     cases b with
     | true=>have h0:=Sg r lv c1 d1 c' d' h;have h1:=Ja t lv c d c1 d1 hw (by omega);have h2:=NO r lv c1 d1 c' d' h hd;simp only [Kx];omega
     | false=>simp at h
end
theorem J2:∀ t:Ro,(wlk t 1 (0,0)).1=false→4000<(wlk t 1 (0,0)).2.1:=by
 have key:∀ (n:Nat),True:=fun _=>trivial
 intro t
 exact (go t 1 (0,0))
 where
 go:∀ (t:Ro) (lv:Int) (st:Int×Int),(wlk t lv st).1=false→4000<(wlk t lv st).2.1
 | .mk l,lv,(c,d),h=>by
   simp only [wlk] at h ⊢
   split at h
   ·rename_i hc
    rw [if_pos hc]
    split at h
    ·rename_i hl;rw [if_pos hl];exact gos l (lv+1) _ h
    ·simp at h
   ·rename_i hc;rw [if_neg hc];simp only;omega
 gos:∀ (l:List Ro) (lv:Int) (st:Int×Int),(Xq l lv st).1=false→4000<(Xq l lv st).2.1
 | [],lv,st,h=>by simp [Xq] at h
 | t::r,lv,st,h=>by
   simp only [Xq] at h ⊢
   cases hw:wlk t lv st with
   | mk b q =>
     rw [hw] at h
     cases b with
     | true=>exact gos r lv q h
     | false=>have:=go t lv st (by rw [hw]);rw [hw] at this;exact this
theorem LI (t:Ro)(h:XZ t=0):cnt t≤4000:=by
 unfold XZ at h
 split at h
 ·simp at h
 ·split at h
  ·simp at h
  ·rename_i h1 h2
   unfold Qg at h1 h2
   cases hw:wlk t 1 (0,0) with
   | mk b q =>
     obtain ⟨c,d⟩:=q
     cases b with
     | true =>
       rw [hw] at h1 h2
       simp only [if_true] at h1 h2
       have:=Ja t 1 0 0 c d hw (by omega)
       omega
     | false =>
       have:=J2 t (by rw [hw])
       rw [hw] at h1 this
       simp at h1 this
       omega
mutual
theorem Qd:∀ (t:Tm) (b:Int),(Xd t b).length=cnt t.shape
 | .mk k n s l,b=>by rw [Xd,List.length_cons,SZ l,Tm.shape,cnt]
theorem SZ:∀ (l:List Tm) (b:Int),(ZV l b).length=Kx (cU l)
 | [],b=>rfl
 | t::r,b=>by rw [ZV,List.length_append,Qd t b,SZ r b,cU,Kx]
end
theorem GY (t:Tm)(h:Ur t=0)(b:Int):(Xd t b).length≤4000:=by
 rw [Qd]
 refine LI _ ?_
 unfold Ur at h
 split at h
 ·rename_i h1;exact absurd h h1
 ·rename_i h1;simpa using h1
def W8 (acc:List Int)(n:Int):List Int:=if n∈acc then acc else acc++[n]
def Yf (acc:List Int):List (Int×AV×Nat):=acc.zipIdx.map fun p=>(p.1,vb true,p.2)
theorem UO (acc:List Int):(Yf acc).map (·.1)=acc:=by
 unfold Yf
 rw [List.map_map]
 apply List.ext_getElem?
 intro i
 simp [List.getElem?_zipIdx,Function.comp_def]
theorem Sr (acc:List Int)(n:Int):XU (Yf acc) n=if n∈acc then some (vb true) else none:=by
 unfold XU
 by_cases h:n∈acc
 ·rw [if_pos h]
  have:∃ e,(Yf acc).find? (fun e=>decide (e.1=n))=some e:=by
   rw [← UO acc,List.mem_map] at h
   obtain ⟨e,he,hn⟩:=h
   cases hf:(Yf acc).find? (fun e=>decide (e.1=n)) with
   | some e=>exact ⟨e,rfl⟩
   | none=>rw [List.find?_eq_none] at hf;exact absurd hn (by simpa using hf e he)
  obtain ⟨e,he⟩:=this
  rw [he]
  have hm:=List.mem_of_find?_eq_some he
  unfold Yf at hm
  obtain ⟨p,_,rfl⟩:=List.mem_map.1 hm
  rfl
 ·rw [if_neg h]
  have:(Yf acc).find? (fun e=>decide (e.1=n))=none:=by
   rw [List.find?_eq_none]
   intro e he
   simp only [decide_eq_true_eq]
   intro hn
   exact h (by rw [← UO acc];exact List.mem_map.2 ⟨e,he,hn⟩)
  rw [this];rfl
theorem TV (acc:List Int)(n:Int)(h:n ∉ acc):VL (Yf acc) n (vb true) acc.length=Yf (acc++[n])∧Uh (Yf acc) n acc.length=(acc++[n]).length:=by
 unfold VL Uh
 rw [UO,if_neg h,if_neg h]
 refine ⟨?_,by simp⟩
 simp [Yf,List.zipIdx_append]
def TR (kind:Int)(L:List (Tm×Int)):List Int:=L.foldl (fun acc p=>match p.1 with | .mk k n _ _=>if k=kind then W8 acc n else acc) []
theorem Dv (acc:List Int)(n:Int):(W8 acc n).length≤acc.length+1:=by unfold W8;split<;>simp
theorem IA (kind:Int)(L:List (Tm×Int)):(TR kind L).length≤L.length:=by
 have:∀ (L:List (Tm×Int)) (acc:List Int),(L.foldl (fun acc p=>match p.1 with | .mk k n _ _=>if k=kind then W8 acc n else acc) acc).length≤acc.length+L.length:=by
  intro L
  induction L with
  | nil=>intro acc;simp
  | cons p r ih =>
    intro acc
    obtain ⟨⟨k,n,s,l⟩,b⟩:=p
    simp only [List.foldl_cons,List.length_cons]
    have:=ih (if k=kind then W8 acc n else acc)
    have h2:(if k=kind then W8 acc n else acc).length≤acc.length+1:=by split;exact Dv acc n;omega
    omega
 have:=this L []
 simpa [TR] using this
theorem L1 (kind:Int)(L:List (Tm×Int))(i:Nat)(k n:Int)(s:Str)(l:List Tm)(b:Int)(h:L[i]?=some (.mk k n s l,b)):TR kind (L.take (i+1))=if k=kind then W8 (TR kind (L.take i)) n else TR kind (L.take i):=by
 rw [List.take_add_one,h]
 simp [TR,List.foldl_append]
structure NS (σ:Store) (kind:Int) (bk bm rm bo:Nat) (acc:List Int) (S:Store):Prop where
 gk:S.get bk=some (.cells [vi kind])
 gm:S.get bm=some (.cells [.val (.map (some rm))])
 gr:S.get rm=some (.map (ZM keI (Yf acc)) acc.length)
 go:∃ v,S.get bo=some (.cells [v])∧LV σ S v 1 (Yz acc)
 has:Has σ S
theorem L2 (σ:Store)(kind:Int)(bk bm rm bo:Nat)(fr:Zx σ rm)(fo:Zx σ bo)(nmo:bm≠bo)(nko:bk≠bo)(acc:List Int)(hacc:acc.length≤4000)(k n b:Int)(s:Str)(l:List Tm)(S:Store)(h:NS σ kind bk bm rm bo acc S) :
 Zj Tryz.prog 270 [.agg (Tm.mk k n s l).emb,vi b,.val (.pointer (some ⟨bk,0,none⟩)),.val (.pointer (some ⟨bm,0,none⟩)),.val (.pointer (some ⟨bo,0,none⟩))] S
  (fun r S'=>r=.ret (.tup [])∧NS σ kind bk bm rm bo (if k=kind then W8 acc n else acc) S'):=by
 obtain ⟨v,go,hv⟩:=h.go
 have gk:=h.gk
 have gm:=h.gm
 have gr:=h.gr
 simp only [co]
 refine Zc [] [] Tryz.func270 rfl (by kernel_rfl) ?_;rw [Tryz.ntmps270,Tryz.results270]
 try simp only [go_sem,seval,Um,gk]
 refine ⟨fun hk=>?_,fun hk=>?_⟩
 ·rw [if_pos hk]
  try simp only [go_sem,seval,Um,gm]
  refine UV (z:=.bool false) Um.2.2.2.2.2.2.1 (by simp only [Um]) (by simp only [Um]) gr ?_
  rw [Mk,Sr]
  by_cases hin:n∈acc
  ·have ha:W8 acc n=acc:=by unfold W8;rw [if_pos hin]
   rw [if_pos hin,ha]
   try simp only [go_sem,seval,Um,Option.getD_some]
   exact .mk (.refl _) (.refl _) ⟨rfl,h⟩
  ·have ha:W8 acc n=acc++[n]:=by unfold W8;rw [if_neg hin]
   rw [if_neg hin,ha]
   try simp only [go_sem,seval,Um,Option.getD_none,gm]
   refine Y3 Um.2.2.2.2.2.2.1 (by simp only [Um]) gr ?_
   obtain ⟨u1,u2⟩:=TV acc n hin
   rw [u1,u2]
   have nor:bo≠rm:=fun e=>by rw [e,gr] at go;cases go
   have nmr:bm≠rm:=fun e=>by rw [e,gr] at gm;cases gm
   have nkr:bk≠rm:=fun e=>by rw [e,gr] at gk;cases gk
   have go1:(S.set rm (.map (ZM keI (Yf (acc++[n]))) (acc++[n]).length)).get bo=some (.cells [v]):=by rw [Zb nor];exact go
   try simp only [go_sem,seval,Um,go1]
   have hv1:LV σ (S.set rm (.map (ZM keI (Yf (acc++[n]))) (acc++[n]).length)) v 1 (Yz acc):=hv.set gr (fun e c h=>by cases h) _
   refine ⟨rfl,hv1.append rfl (by decide) (by simp [Yz];omega) rfl (by simp) (h.has.set fr _) (fun v' S' hv' hkp hS'=>?_)⟩
   have e1:Yz acc++[[AV.val (.int .i64 n)]]=Yz (acc++[n]):=by simp [Yz]
   rw [e1] at hv'
   have gr':=hkp rm _ (Zd gr) (by simp)
   have gm':=hkp bm _ (by rw [Zb nmr];exact gm) (by simp)
   have gk':=hkp bk _ (by rw [Zb nkr];exact gk) (by simp)
   have go':=hkp bo _ go1 (by simp)
   try simp only [go_sem,seval,Um,hv'.cells,hv'.one,go']
   refine .mk (.refl _) (.refl _) ⟨rfl,⟨by rw [Zb nko];exact gk',by rw [Zb nmo];exact gm',by rw [Zb (Ne.symm nor)];exact gr',⟨v',Zd go',hv'.set go' (by simp) _⟩,hS'.set fo _⟩⟩
 ·rw [if_neg hk]
  exact .mk (.refl _) (.refl _) ⟨rfl,h⟩
def Tc (t:Tm)(kind:Int):List Int:=if Ur t≠0 then [] else TR kind (Xd t 0)
theorem P6 (t:Tm)(kind:Int):Pur Tryz.prog 259 [.agg t.emb,vi kind] (.list .none 1 (Yz (Tc t kind))):=by
 intro σ
 refine Zj.nodup (by kernel_rfl) (fun hnd=>?_)
 have hr:=Jy t
 have hlen:=fun h=>GY t h 0
 have hn:=fun f Pp=>Ex f Pp t 0 0
 have hd:Tc t kind=if Ur t≠0 then [] else TR kind (Xd t 0):=rfl
 rw [hd]
 generalize Ur t=e at hr hlen ⊢
 generalize Xd t 0=L at hn hlen ⊢
 obtain ⟨k,n,s,l⟩:=t
 simp only [co] at hr hn ⊢
 refine Zc [2,3] [] Tryz.func259 rfl (by kernel_rfl) ?_;rw [Tryz.ntmps259,Tryz.results259]
 try simp only [go_sem,seval,RQ]
 intro b2 hb2 b3 hb3
 try simp only [go_sem,seval,RQ,hb3]
 refine hr.use ?_
 try simp only [go_sem,seval,RQ]
 refine ⟨fun q=>?_,fun q=>?_⟩
 ·rw [if_pos q]
  exact .mk (.nilA _ _ _) (((Sub.refl σ).skip _).skip _) ⟨rfl,rfl⟩
 ·rw [if_neg (not_not_intro q)]
  intro b5 hb5
  try simp only [go_sem,seval,RQ]
  intro rm hrm b6 hb6
  have g2:Store.get ((b3,AObj.cells [vi kind])::(b2,.cells [vi k,vi n,vs s,.list .none 4 (cH l)])::σ) b2=some (.cells [vi k,vi n,vs s,.list .none 4 (cH l)]):=by rw [Zy hb3 (by rw [Zi];rfl),Zi]
  try simp only [go_sem,seval,RQ,hb3,hb5,hrm,hb6]
  have hlen:=hlen q
  obtain ⟨S0,hS0⟩:∃ S0:Store,S0=(b6,AObj.cells [.val (.map (some rm))])::(rm,.map [] 0)::(b5,.cells [.list .full 0 []])::(b3,.cells [vi kind])::(b2,.cells [vi k,vi n,vs s,.list .none 4 (cH l)])::σ:=⟨_,rfl⟩
  have hcl:((b6,AObj.cells [AV.val (Value.map (some rm))])::(rm,.map [] 0)::(b5,.cells [.list .full 0 []])::(b3,.cells [.val (.int .i64 kind)])::(b2,.cells [.val (.int .i64 k),.val (.int .i64 n),.val (.string s),.list .none 4 (cH l)])::σ:Store)=S0:=hS0.symm
  rw [hcl]
  have n35:b3≠b5:=hb5.1
  have n3r:b3≠rm:=hrm.2.1
  have n5r:b5≠rm:=hrm.1
  have nr6:rm≠b6:=hb6.1
  have n56:b5≠b6:=hb6.2.1
  have n36:b3≠b6:=hb6.2.2.1
  have f5:Zx σ b5:=hb5.2.2
  have fr:Zx σ rm:=hrm.2.2.2
  have h0:NS σ kind b3 b6 rm b5 [] S0:=by
   rw [hS0]
   refine ⟨?_,Zi _ _ _,?_,⟨.list .full 0 [],?_,LV.nil _ _ _⟩,fun p hp=>by simp [hp]⟩
   ·rw [Za (Ne.symm n36),Za (Ne.symm n3r),Za (Ne.symm n35),Zi]
   ·rw [Za (Ne.symm nr6),Zi];rfl
   ·rw [Za (Ne.symm n56),Za (Ne.symm n5r),Zi]
  have G2:S0.get b2=some (.cells [vi k,vi n,vs s,.list .none 4 (cH l)]):=by
   rw [hS0,Za (Ne.symm hb6.2.2.2.1),Za (Ne.symm hrm.2.2.1),Za (Ne.symm hb5.2.1),g2]
  try simp only [go_sem,seval,RQ,G2]
  refine (hn (.func (.func 270) #[] #[.pointer (some ⟨b3,0,none⟩),.pointer (some ⟨b6,0,none⟩),.pointer (some ⟨b5,0,none⟩)]) (fun i S=>NS σ kind b3 b6 rm b5 (TR kind (L.take i)) S) S0 h0 (fun j p S hj hS=>?_)).mono ?_
  ·rw [Nat.zero_add] at hS ⊢
   obtain ⟨⟨k',n',s',l'⟩,c⟩:=p
   rw [L1 kind L j k' n' s' l' c hj,Y5]
   have:=IA kind (L.take j)
   rw [List.length_take] at this
   exact L2 σ kind b3 b6 rm b5 fr f5 (Ne.symm n56) n35 _ (by omega) k' n' c s' l' S hS
  ·rintro r S' ⟨h1,hS'⟩
   rw [h1]
   rw [Nat.zero_add,List.take_of_length_le (Nat.le_refl _)] at hS'
   obtain ⟨v,go,hv⟩:=hS'.go
   try simp only [go_sem,seval,RQ,go]
   exact .mk hv.wk (hS'.has.sub hnd) ⟨rfl,rfl⟩
theorem BP (t:Tm):Pur Tryz.prog 221 [.agg t.emb] (.list .none 1 (Yz (Tc t 4))):=by
 intro σ
 have h:=P6 t 4
 obtain ⟨k,n,s,l⟩:=t
 simp only [co] at h ⊢
 refine Zc [] [] Tryz.func221 rfl (by kernel_rfl) ?_;rw [Tryz.ntmps221,Tryz.results221]
 try simp only [go_sem,seval,Bo]
 refine h.use ?_
 try simp only [go_sem,seval,Bo]
 exact Zu
theorem Al (t:Tm):Pur Tryz.prog 220 [.agg t.emb] (.list .none 1 (Yz (Tc t 3))):=by
 intro σ
 have h:=P6 t 3
 obtain ⟨k,n,s,l⟩:=t
 simp only [co] at h ⊢
 refine Zc [] [] Tryz.func220 rfl (by kernel_rfl) ?_;rw [Tryz.ntmps220,Tryz.results220]
 try simp only [go_sem,seval,Bp]
 refine h.use ?_
 try simp only [go_sem,seval,Bp]
 exact Zu
end Go.Vx
end
