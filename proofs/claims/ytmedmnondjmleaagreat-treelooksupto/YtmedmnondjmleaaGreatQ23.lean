/- Part Q23 of the proof of treeLooksProved: the walk of the program on abstract values, and the plain law. -/
import Derived.Test.YtmedmnondjmleaaGreatQ22
set_option linter.unusedVariables false
set_option linter.unusedSimpArgs false
set_option maxRecDepth 100000
namespace Go.Vx
open Go.Proofs
theorem Bn:(Zl Tryz.prog 224=some (.agg #[(.slice none 0 0),(.slice none 0 0),(.slice none 0 0),(.slice none 0 0),(.slice none 0 0)]))∧(Yx Tryz.prog 224=some [(0,1),(1,1),(2,1),(3,1),(4,1)])∧(Zh Tryz.prog 150=some 2)∧(Ze Tryz.prog 150=some true):=by
 refine ⟨?_,?_,?_,?_⟩<;>first | trivial | kernel_rfl
theorem Bm:(Zz Tryz.prog 150 0=some 0)∧(Zh Tryz.prog 9=some 1)∧(Ze Tryz.prog 9=some false)∧(Zz Tryz.prog 150 1=some 1)∧(Zh Tryz.prog 126=some 1)∧(Ze Tryz.prog 126=some false):=by
 refine ⟨?_,?_,?_,?_,?_,?_⟩<;>first | trivial | kernel_rfl
theorem PT:(Zh Tryz.prog 150=some 2)∧(Ze Tryz.prog 150=some true):=by
 refine ⟨?_,?_⟩<;>first | trivial | kernel_rfl
theorem SR:(ZA Tryz.prog 126=some 150)∧(Zh Tryz.prog 150=some 2)∧(Ze Tryz.prog 150=some true)∧(Zl Tryz.prog 150=some (.agg #[(.string ⟨#[]⟩),(.slice none 0 0)]))∧(Tryz.prog.underlying 126=some (.slice 150)):=by
 refine ⟨?_,?_,?_,?_,?_⟩<;>first | trivial | kernel_rfl
theorem Bt:(Zl Tryz.prog 224=some (.agg #[(.slice none 0 0),(.slice none 0 0),(.slice none 0 0),(.slice none 0 0),(.slice none 0 0)]))∧(Yx Tryz.prog 224=some [(0,1),(1,1),(2,1),(3,1),(4,1)])∧(Zh Tryz.prog 150=some 2)∧(Ze Tryz.prog 150=some true):=by
 refine ⟨?_,?_,?_,?_⟩<;>first | trivial | kernel_rfl
theorem BA:(True):=by
 first | trivial | kernel_rfl
def Ya (t:Ty):Bool:=decide (U3 [] t=0) || decide (U3 [] t=40)
theorem bD (t:Ty):Pur Tryz.prog 164 [.agg [.list .full 0 [],.list .full 0 [],.list .full 0 [],.list .full 0 [],.list .full 0 []],.agg t.emb] (vi (U3 [] t)) :=
 MR [] .full 0 (.inr rfl) _ _ _ _ rfl rfl rfl rfl t
theorem Ol (t:Ty):Pur Tryz.prog 254 [.agg t.emb] (vb (Ya t)):=by
 intro σ
 have hc:=bD t
 have hd:Ya t=(decide (U3 [] t=0) || decide (U3 [] t=40)):=rfl
 obtain ⟨s,l⟩:=t
 simp only [cG] at hc ⊢
 refine Zc [] [] Tryz.func254 rfl (by kernel_rfl) ?_;rw [Tryz.ntmps254,Tryz.results254]
 try simp only [go_sem,seval,Bn]
 refine hc.use ?_
 rw [hd]
 generalize U3 [] (Ty.mk s l)=e
 try simp only [go_sem,seval,Bn]
 refine ⟨fun h=>ZC ?_,fun h=>ZC ?_⟩<;>simp [h]
theorem Kz (t:Ty):Pur Tryz.prog 163 [.agg t.emb] (vb (!Ya t)):=by
 intro σ
 have hc:=bD t
 have hd:Ya t=(decide (U3 [] t=0) || decide (U3 [] t=40)):=rfl
 obtain ⟨s,l⟩:=t
 simp only [cG] at hc ⊢
 refine Zc [] [] Tryz.func163 rfl (by kernel_rfl) ?_;rw [Tryz.ntmps163,Tryz.results163]
 try simp only [go_sem,seval,Bt]
 refine hc.use ?_
 rw [hd]
 generalize U3 [] (Ty.mk s l)=e
 try simp only [go_sem,seval,Bt]
 refine ⟨fun h=>ZC ?_,fun h=>ZC ?_⟩<;>simp [h]
theorem AG {P:Program}{k n:Nat}{args:List AV}{b:Nat→Bool}{c:Bool}(h:∀ σ,Zj P k args σ (Pg b n (fun _=>σ)))(hc:c=true↔∃ i,i<n∧b i=true):Pur P k args (vb c):=by
 intro σ
 refine (h σ).mono ?_
 rintro r σ' (⟨i,hi,hb,_,rfl,rfl⟩ | ⟨hn,rfl,rfl⟩)
 ·rw [hc.2 ⟨i,hi,hb⟩];exact ⟨rfl,rfl⟩
 ·have:c=false:=by
   cases hcc:c with
   | false=>rfl
   | true=>obtain ⟨i,hi,hb⟩:=hc.1 hcc;rw [hn i hi] at hb;cases hb
  rw [this];exact ⟨rfl,rfl⟩
theorem VG (l:List Ty)(rt:Rt)(sz:Nat)(hs:sz=2∨l=[]):Pur Tryz.prog 129 [.list rt sz (cJ l)] (vb (l.all Ya)):=by
 intro σ
 have hk:Pur Tryz.prog 162 [.list rt sz (cJ l),.val (.func (.func 163) #[] #[])] (vb (!(l.all Ya))):=by
  refine AG (b:=fun i=>match l[i]? with | some t=>!Ya t | none=>false) (n:=l.length) (fun σ=>?_) ?_
  ·have:=Rp (.func (.func 163) #[] #[]) rt sz (cJ l) (fun _=>σ) (fun i=>match l[i]? with | some t=>!Ya t | none=>false) (hs.imp id (fun h=>by rw [h];rfl)) (fun i e he=>by obtain ⟨t,_,rfl⟩:=cX he;cases t;rfl)
    (fun i e he _=>by
     obtain ⟨t,ht,rfl⟩:=cX he
     rw [Y5]
     simp only [ht]
     exact Kz t σ)
   rw [cj] at this
   exact this
  ·constructor
   ·intro h
    simp only [Bool.not_eq_true',List.all_eq_false] at h
    obtain ⟨t,ht,hf⟩:=h
    obtain ⟨i,hi,rfl⟩:=List.getElem_of_mem ht
    exact ⟨i,hi,by simp only [List.getElem?_eq_getElem hi];simpa using hf⟩
   ·rintro ⟨i,hi,hb⟩
    simp only [List.getElem?_eq_getElem hi] at hb
    simp only [Bool.not_eq_true',List.all_eq_false]
    exact ⟨l[i],List.getElem_mem hi,by simpa using hb⟩
 refine Zc [] [] Tryz.func129 rfl (by kernel_rfl) ?_;rw [Tryz.ntmps129,Tryz.results129]
 try simp only [go_sem,seval,BA]
 refine hk.use ?_
 try simp only [go_sem,seval,BA]
 exact ZC (by simp)
mutual
def SB:Ty→Ty→Bool
 | .mk s l,.mk s' l'=>decide (s=s')&&Vg l l'
def Vg:List Ty→List Ty→Bool
 | [],[]=>true
 | a::r,b::q=>SB a b&&Vg r q
 | _,_=>false
end
theorem On:∀ (l m:List Ty),Vg l m=true→l.length=m.length
 | [],[],_=>rfl
 | a::r,b::q,h=>by simp only [Vg,Bool.and_eq_true] at h;simp [On r q h.2]
 | [],_::_,h=>by simp [Vg] at h
 | _::_,[],h=>by simp [Vg] at h
theorem SA:∀ (l m:List Ty),l.length=m.length→(Vg l m=true↔∀ (i:Nat) (a b:Ty),l[i]?=some a→m[i]?=some b→SB a b=true)
 | [],[],_=>by simp [Vg]
 | a::r,b::q,h=>by
   simp only [Vg,Bool.and_eq_true,SA r q (by simpa using h)]
   constructor
   ·rintro ⟨h1,h2⟩ i x y hx hy
    cases i with
    | zero=>simp at hx hy;subst hx;subst hy;exact h1
    | succ i=>exact h2 i x y (by simpa using hx) (by simpa using hy)
   ·intro k;exact ⟨k 0 a b rfl rfl,fun i x y hx hy=>k (i+1) x y (by simpa using hx) (by simpa using hy)⟩
 | [],_::_,h=>by simp at h
 | _::_,[],h=>by simp at h
theorem Hk (l m:List Ty)(r1 r2:Rt)(s1 s2:Nat)(h1:s1=2∨l=[])(h2:s2=2∨m=[])(hf:∀ a∈l,∀ b,Pur Tryz.prog 255 [.agg a.emb,.agg b.emb] (vb (SB a b))) :
 Pur Tryz.prog 269 [.list r1 s1 (cJ l),.list r2 s2 (cJ m),.val (.func (.func 255) #[] #[])] (vb (Vg l m)):=by
 intro σ
 refine Zj.ok (by kernel_rfl) (fun hok=>?_)
 have hl:=(hok _ List.mem_cons_self).len
 rw [cj] at hl
 clear hok
 refine Zc [] [] Tryz.func269 rfl (by kernel_rfl) ?_;rw [Tryz.ntmps269,Tryz.results269]
 try simp only [go_sem,seval,SR,cj]
 refine ⟨fun q=>ZC ?_,fun q=>?_⟩
 ·cases h:Vg l m with
  | false=>rfl
  | true=>exact absurd (by have:=On l m h;omega) q
 ·have q:l.length=m.length:=by omega
  refine Zv (mu:=[]) (dr:=[]) [6,7,8,9,17,18,19,20,21,22,23,24,25,26,27,28,29,30,31] (fun i:Nat=>[(17,vi i)]) (fun _=>σ) (fun i=>i≤l.length∧∀ (j:Nat) (a b:Ty),j<i→l[j]?=some a→m[j]?=some b→SB a b=true) (fun i=>l.length-i) 0 (by kernel_rfl) ⟨by omega,fun j a b hj=>by omega⟩ ⟨.refl _,trivial⟩ (.refl _) ?_
  rintro i ⟨hi,hb⟩
  try simp only [go_sem,seval,SR,cj]
  refine ⟨fun g1=>⟨?_,by omega,g1,fun c hc=>?_⟩,fun g1=>?_⟩
  ·rcases h1 with h1 | h1
   ·rw [h1]
   ·rw [h1] at g1;simp at g1;omega
  ·rw [Int.toNat_natCast] at hc
   obtain ⟨a,ha,rfl⟩:=cX hc
   have hfa:=hf a (List.mem_of_getElem? ha)
   obtain ⟨sa,la⟩:=a
   try simp only [go_sem,seval,SR,cG]
   intro b8 hb8
   try simp only [go_sem,seval,SR,cj]
   refine ⟨?_,by omega,by omega,fun c hc=>?_⟩
   ·rcases h2 with h2 | h2
    ·rw [h2]
    ·exfalso;rw [h2,List.length_nil] at q;omega
   rw [Int.toNat_natCast] at hc
   obtain ⟨d,hd,rfl⟩:=cX hc
   have hfd:=hfa d
   obtain ⟨sd,ld⟩:=d
   try simp only [go_sem,seval,SR,cG]
   intro b9 hb9
   try simp only [go_sem,seval,SR,hb9,hb8]
   refine hfd.use ?_
   cases he:SB (Ty.mk sa la) (Ty.mk sd ld) with
   | true =>
     try simp only [go_sem,seval,SR]
     rw [show IntKind.i64.wrap ((i:Int)+1)=((i+1:Nat):Int) from Zp (by omega) (by omega)]
     refine .mk (i+1) ⟨by omega,fun j a b hj hja hjb=>?_⟩ (by omega) ⟨.refl _,trivial⟩ (by repeat first | exact Zf.turn _ rfl | refine Zf.put rfl ?_) ((Sub.refl σ).skip _ |>.skip _)
     by_cases e:j=i
     ·subst e;rw [ha] at hja;rw [hd] at hjb;injection hja with hja;injection hjb with hjb;subst hja;subst hjb;exact he
     ·exact hb j a b (by omega) hja hjb
   | false =>
     try simp only [go_sem,seval,SR]
     have:Vg l m=false:=by
      cases h:Vg l m with
      | false=>rfl
      | true=>have:=(SA l m q).1 h i _ _ ha hd;rw [he] at this;cases this
     rw [this]
     exact ZE (.refl _) ((Sub.refl σ).skip _ |>.skip _)
  ·have:Vg l m=true:=(SA l m q).2 (fun j a b hja hjb=>hb j a b (by have:=(List.getElem?_eq_some_iff.1 hja).1;omega) hja hjb)
   rw [this]
   exact Zu
theorem Et (a:Ty):∀ b,Pur Tryz.prog 255 [.agg a.emb,.agg b.emb] (vb (SB a b)):=by
 induction a using dI with | h s l ih=>?_
 intro b σ
 obtain ⟨s',l'⟩:=b
 simp only [cG]
 refine Zc [] [] Tryz.func255 rfl (by kernel_rfl) ?_;rw [Tryz.ntmps255,Tryz.results255]
 try simp only [go_sem,seval,Bm]
 refine ⟨fun h=>?_,fun h=>?_⟩
 ·refine (Hk l l' .none .none 2 2 (.inl rfl) (.inl rfl) ih).use ?_
  try simp only [go_sem,seval,Bm]
  exact ZC (by simp [SB,h])
 ·exact ZC (by simp [SB,h])
theorem R6 (a b:Ty):Pur Tryz.prog 215 [.agg a.emb,.agg b.emb] (vb (Ya a&&Ya b&&SB a b)):=by
 intro σ
 have ha:=Ol a
 have hb:=Ol b
 have he:=Et a b
 generalize hfa:Ya a=fa at ha ⊢
 generalize hfb:Ya b=fb at hb ⊢
 generalize heq:SB a b=eq at he ⊢
 obtain ⟨s,l⟩:=a
 obtain ⟨s',l'⟩:=b
 simp only [cG] at ha hb he ⊢
 refine Zc [] [] Tryz.func215 rfl (by kernel_rfl) ?_;rw [Tryz.ntmps215,Tryz.results215]
 try simp only [go_sem,seval,PT]
 refine ha.use ?_
 cases fa with
 | false =>
   try simp only [go_sem,seval,PT]
   exact ZC (by simp)
 | true =>
   try simp only [go_sem,seval,PT]
   refine hb.use ?_
   cases fb with
   | false =>
     try simp only [go_sem,seval,PT]
     exact ZC (by simp)
   | true =>
     try simp only [go_sem,seval,PT]
     refine he.use ?_
     try simp only [go_sem,seval,PT]
     exact ZC (by simp)
end Go.Vx
