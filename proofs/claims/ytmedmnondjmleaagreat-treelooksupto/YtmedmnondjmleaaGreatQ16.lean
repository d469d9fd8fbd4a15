/- Part Q16 of the proof of treeLooksProved: the walk of the program on abstract values, and the plain law. -/
import Derived.Test.YtmedmnondjmleaaGreatQ15
import Derived.Test.YtmedmnondjmleaaGreatQ14
set_option linter.unusedVariables false
set_option linter.unusedSimpArgs false
section
set_option maxRecDepth 100000
namespace Go.Vx
open Go.Proofs
theorem Bj:(Zl Tryz.prog 322=some (.agg #[(.bool false),(.bool false),(.bool false),(.bool false),(.bool false),(.bool false),(.bool false),(.bool false),(.bool false),(.bool false),(.bool false),(.bool false),(.bool false),(.bool false),(.bool false),(.bool false),(.bool false),(.bool false),(.bool false),(.bool false),(.bool false),(.bool false),(.bool false),(.bool false),(.bool false),(.bool false),(.bool false),(.bool false),(.bool false),(.bool false),(.bool false),(.bool false),(.bool false),(.bool false),(.bool false),(.bool false),(.bool false),(.bool false),(.bool false),(.bool false),(.bool false),(.bool false),(.bool false),(.bool false),(.bool false),(.bool false),(.bool false),(.bool false),(.bool false),(.bool false),(.bool false),(.bool false),(.bool false),(.bool false),(.bool false),(.bool false),(.bool false),(.bool false),(.bool false),(.bool false),(.bool false),(.bool false),(.bool false),(.bool false),(.bool false),(.bool false),(.bool false),(.bool false),(.bool false),(.bool false),(.bool false),(.bool false),(.bool false),(.bool false),(.bool false),(.bool false),(.bool false),(.bool false),(.bool false),(.bool false),(.bool false),(.bool false),(.bool false),(.bool false),(.bool false),(.bool false),(.bool false),(.bool false),(.bool false),(.bool false),(.bool false),(.bool false),(.bool false),(.bool false),(.bool false),(.bool false),(.bool false),(.bool false),(.bool false),(.bool false),(.bool false),(.bool false),(.bool false),(.bool false),(.bool false),(.bool false),(.bool false),(.bool false),(.bool false),(.bool false),(.bool false),(.bool false),(.bool false),(.bool false),(.bool false),(.bool false),(.bool false),(.bool false),(.bool false),(.bool false),(.bool false),(.bool false),(.bool false),(.bool false),(.bool false),(.bool false),(.bool false),(.bool false),(.bool false),(.bool false),(.bool false),(.bool false),(.bool false),(.bool false),(.bool false),(.bool false),(.bool false),(.bool false),(.bool false),(.bool false),(.bool false),(.bool false),(.bool false),(.bool false),(.bool false),(.bool false),(.bool false),(.bool false),(.bool false),(.bool false),(.bool false),(.bool false),(.bool false),(.bool false),(.bool false),(.bool false),(.bool false),(.bool false),(.bool false),(.bool false),(.bool false),(.bool false),(.bool false),(.bool false),(.bool false),(.bool false),(.bool false),(.bool false),(.bool false),(.bool false),(.bool false),(.bool false),(.bool false),(.bool false),(.bool false),(.bool false),(.bool false),(.bool false),(.bool false),(.bool false),(.bool false),(.bool false),(.bool false),(.bool false),(.bool false),(.bool false),(.bool false),(.bool false),(.bool false),(.bool false),(.bool false),(.bool false),(.bool false),(.bool false),(.bool false),(.bool false),(.bool false),(.bool false),(.bool false),(.bool false),(.bool false),(.bool false),(.bool false),(.bool false),(.bool false),(.bool false),(.bool false),(.bool false),(.bool false),(.bool false),(.bool false),(.bool false),(.bool false),(.bool false),(.bool false),(.bool false),(.bool false),(.bool false),(.bool false),(.bool false),(.bool false),(.bool false),(.bool false),(.bool false),(.bool false),(.bool false),(.bool false),(.bool false),(.bool false),(.bool false),(.bool false),(.bool false),(.bool false),(.bool false),(.bool false),(.bool false),(.bool false),(.bool false),(.bool false),(.bool false),(.bool false),(.bool false),(.bool false),(.bool false),(.bool false),(.bool false),(.bool false),(.bool false),(.bool false),(.bool false),(.bool false),(.bool false),(.bool false),(.bool false),(.bool false),(.bool false)]))∧(Tryz.prog.underlying 9=some .string)∧(ZA Tryz.prog 322=none)∧(Zh Tryz.prog 4=some 1)∧(Tryz.prog.underlying 322=some (.array 256 4))∧(Zh Tryz.prog 322=some 256)∧(Ze Tryz.prog 322=some true):=by
 refine ⟨?_,?_,?_,?_,?_,?_,?_⟩<;>first | trivial | kernel_rfl
theorem SQ:(Tryz.prog.underlying 9=some .string):=by
 first | trivial | kernel_rfl
abbrev zeros256:List AV:=List.replicate 256 (vb false)
def Yq (s:Str)(n:Nat):List AV:=(List.range 256).map fun j:Nat=>vb (decide (∃ i,i<n∧i<s.size∧bAt s i=(j:Int)))
theorem SH (s:Str)(i:Nat):0≤bAt s i∧bAt s i<256:=by
 unfold bAt
 have:=(s.data.toList.getD i 0).toNat_lt
 omega
theorem XV (s:Str)(n:Nat):(Yq s n).length=256:=by simp [Yq]
theorem Np (s:Str):Yq s 0=zeros256:=by
 apply List.ext_getElem
 ·simp [Yq]
 ·intro i h1 h2;simp [Yq]
theorem Nq (s:Str)(n:Nat)(hn:n<s.size):Yu (Yq s n) (bAt s n).toNat [vb true]=Yq s (n+1):=by
 have hb:=SH s n
 apply List.ext_getElem?
 intro i
 unfold Yu
 by_cases h1:i<(bAt s n).toNat
 ·rw [List.getElem?_append_left (by simp [Yq];omega),List.getElem?_take_of_lt h1]
  simp only [Yq,List.getElem?_map]
  rw [List.getElem?_range (by omega)]
  simp only [Option.map_some,Option.some.injEq]
  refine congrArg (fun p=>vb p) (decide_eq_decide.2 ?_)
  constructor
  ·rintro ⟨k,a,b,c⟩;exact ⟨k,by omega,b,c⟩
  ·rintro ⟨k,a,b,c⟩
   refine ⟨k,?_,b,c⟩
   by_cases e:k=n
   ·subst e;omega
   ·omega
 ·rw [List.getElem?_append_right (by simp [Yq];omega)]
  simp only [List.length_take,XV,Nat.min_eq_left (show (bAt s n).toNat≤256 by omega)]
  by_cases h2:i=(bAt s n).toNat
  ·subst h2
   simp only [Nat.sub_self,List.cons_append,List.getElem?_cons_zero,Yq,List.getElem?_map]
   rw [List.getElem?_range (by omega)]
   simp only [Option.map_some,Option.some.injEq]
   have:(∃ k,k<n+1∧k<s.size∧bAt s k=(((bAt s n).toNat:Nat):Int)):=⟨n,by omega,hn,by omega⟩
   simp only [this,decide_true]
  ·obtain ⟨q,hq⟩:=Nat.exists_eq_succ_of_ne_zero (show i-(bAt s n).toNat≠0 by omega)
   rw [hq]
   simp only [List.cons_append,List.nil_append,List.getElem?_cons_succ,List.length_cons,List.length_nil,List.getElem?_drop,Nat.zero_add]
   rw [show (bAt s n).toNat+1+q=i by omega]
   simp only [Yq,List.getElem?_map]
   by_cases h3:i<256
   ·rw [List.getElem?_range h3]
    simp only [Option.map_some,Option.some.injEq]
    refine congrArg (fun p=>vb p) (decide_eq_decide.2 ?_)
    constructor
    ·rintro ⟨k,a,b,c⟩;exact ⟨k,by omega,b,c⟩
    ·rintro ⟨k,a,b,c⟩
     refine ⟨k,?_,b,c⟩
     by_cases e:k=n
     ·subst e;omega
     ·omega
   ·rw [List.getElem?_eq_none (l:=List.range 256) (by simp;omega)];rfl
theorem Hp (s:Str)(hsz:s.size≤1000):Pur Tryz.prog 279 [vs s] (.agg (Yq s s.size)):=by
 intro σ
 refine Zc [] [] Tryz.func279 rfl (by kernel_rfl) ?_;rw [Tryz.ntmps279,Tryz.results279]
 try simp only [go_sem,seval,Bj]
 intro b hb
 refine Zv (mu:=[]) (dr:=[]) [3,6,7,8,9,10,11,12,13] (fun i:Nat=>[(6,vi i)]) (fun i=>(b,.cells (Yq s i))::σ) (fun i=>i≤s.size) (fun i=>s.size-i) 0 (by kernel_rfl) (by omega) ⟨.refl _,trivial⟩ (by rw [Np];exact .refl _) ?_
 intro i hi
 try simp only [go_sem,seval,Bj,XV,Int.toNat_natCast]
 have hbi:=SH s i
 refine ⟨fun h=>⟨by omega,by omega,hbi.1,hbi.2,by omega,?_⟩,fun h=>?_⟩
 ·rw [show IntKind.i64.wrap ((i:Int)+1)=((i+1:Nat):Int) from Zp (by omega) (by omega)]
  refine .mk (i+1) (by omega) (by omega) ⟨.refl _,trivial⟩ (by repeat first | exact Zf.turn _ rfl | refine Zf.put rfl ?_) ?_
  have:=Nq s i (by omega)
  simp only [Yu,List.length_cons,List.length_nil,List.cons_append,List.nil_append,Nat.zero_add] at this
  simp only [Nat.mul_one,this]
  exact .refl _
 ·have hi2:i=s.size:=by omega
  have h1:List.take 256 (Yq s i)=Yq s i:=List.take_of_length_le (by rw [XV];omega)
  have h2:List.drop 256 (Yq s i)=[]:=List.drop_of_length_le (by rw [XV];omega)
  have h3:(Yq s i).all AV.one=true:=by simp [Yq,AV.one,Value.oneCell']
  simp only [h1,XV,h2,List.append_nil,h3,Nat.le_refl,if_true,Jz,true_and]
  rw [hi2]
  exact ik
def Qe (s:Str)(at_:Nat):Int:=Lib.indexByte (s.extract at_ s.size).data.toList (10:Int).toNat.toUInt8
def XG (s:Str):Nat→Nat→Nat
 | 0,a=>a
 | f + 1,a=>if a<s.size then
     (if bAt s a=32∨bAt s a=9∨bAt s a=10 then XG s f (a+1)
      else if bAt s a=37 then (if 0≤Qe s a then XG s f (a+(Qe s a).toNat) else XG s f s.size)
      else a)
   else a
theorem Ng (l:List UInt8)(c:UInt8):Lib.indexByte l c<l.length∨l=[]:=by
 induction l with
 | nil=>exact .inr rfl
 | cons b r ih =>
   left
   simp only [Lib.indexByte,List.length_cons]
   split
   ·omega
   ·split
    ·omega
    ·rcases ih with h | h
     ·omega
     ·subst h;simp [Lib.indexByte] at *
theorem Qz (l:List UInt8)(c:UInt8)(h:Lib.indexByte l c=0):l.head?=some c:=by
 cases l with
 | nil=>simp [Lib.indexByte] at h
 | cons b r =>
   simp only [Lib.indexByte] at h
   split at h
   ·rename_i e;simp at e;simp [e]
   ·split at h
    ·omega
    ·have:=Lib.indexByte_ge r c
     rename_i e1 e2
     have:Lib.indexByte r c=-1:=by omega
     rw [this] at e2;simp at e2
theorem bQ:(10:Int).toNat.toUInt8=10:=by decide
theorem JA (s:Str)(a:Nat)(h:a<s.size)(hb:bAt s a=37)(h0:0≤Qe s a):0<(Qe s a).toNat∧a+(Qe s a).toNat<s.size:=by
 unfold Qe at h0 ⊢
 rw [bQ] at h0 ⊢
 have hl:(s.extract a s.size).data.toList=s.data.toList.drop a:=by
  rw [ByteArray.data_extract]
  simp only [Array.toList_extract,List.extract_eq_take_drop]
  rw [List.take_of_length_le]
  rw [List.length_drop,Array.length_toList]
  exact Nat.le_refl _
 have hsz:s.data.toList.length=s.size:=by rw [Array.length_toList];rfl
 rw [hl] at h0 ⊢
 have h1:=Ng (s.data.toList.drop a) 10
 have h2:=Qz (s.data.toList.drop a) 10
 rw [List.length_drop,hsz] at h1
 have hne:s.data.toList.drop a≠[]:=by
  intro e
  have:=congrArg List.length e
  rw [List.length_drop,hsz] at this
  simp at this;omega
 have h1:=h1.resolve_right hne
 refine ⟨?_,by omega⟩
 rcases Nat.eq_zero_or_pos (Lib.indexByte (s.data.toList.drop a) 10).toNat with hz | hz
 ·have hz:Lib.indexByte (s.data.toList.drop a) 10=0:=by omega
  have:=h2 hz
  rw [List.head?_drop] at this
  unfold bAt at hb
  rw [List.getD_eq_getElem?_getD,this] at hb
  simp at hb
 ·exact hz
theorem OP (s:Str)(a:Nat)(hsz:s.size≤20000):Pur Tryz.prog 276 [vs s,vi a] (vi (XG s (s.size+1) a)):=by
 intro σ
 refine Zc [] [] Tryz.func276 rfl (by kernel_rfl) ?_;rw [Tryz.ntmps276,Tryz.results276]
 try simp only [go_sem,seval,SQ]
 refine Zv (mu:=[]) (dr:=[]) [1,4,5,6,7,8,9,10,11,12,13,14,15,16,17,18,19,20,21,22,23,24,25,26,27,28,29,30,31,32] (fun x:Nat=>[(1,vi x)]) (fun _=>σ) (fun x=>∃ f,s.size-x<f∧XG s f x=XG s (s.size+1) a) (fun x=>s.size-x) a (by kernel_rfl) ⟨_,by omega,rfl⟩ ⟨.refl _,trivial⟩ (.refl _) ?_
 rintro x ⟨f,hf,hx⟩
 by_cases hlt:x<s.size
 ·obtain ⟨f,rfl⟩:∃ g,f=g+1:=⟨f-1,by omega⟩
  rw [XG,if_pos hlt] at hx
  by_cases h1:bAt s x=32∨bAt s x=9∨bAt s x=10
  ·rw [if_pos h1] at hx
   rcases h1 with h1 | h1 | h1
   ·try simp only [go_sem,seval,SQ,Int.toNat_natCast,h1]
    refine ⟨fun _=>⟨by omega,by omega,?_⟩,fun h=>by omega⟩
    rw [show IntKind.i64.wrap ((x:Int)+1)=((x+1:Nat):Int) from Zp (by omega) (by omega)]
    exact .mk (x+1) ⟨f,by omega,hx⟩ (by omega) ⟨.refl _,trivial⟩ (by repeat first | exact Zf.turn _ rfl | refine Zf.put rfl ?_) (.refl _)
   ·try simp only [go_sem,seval,SQ,Int.toNat_natCast,h1]
    refine ⟨fun _=>⟨by omega,by omega,?_⟩,fun h=>by omega⟩
    rw [show IntKind.i64.wrap ((x:Int)+1)=((x+1:Nat):Int) from Zp (by omega) (by omega)]
    exact .mk (x+1) ⟨f,by omega,hx⟩ (by omega) ⟨.refl _,trivial⟩ (by repeat first | exact Zf.turn _ rfl | refine Zf.put rfl ?_) (.refl _)
   ·try simp only [go_sem,seval,SQ,Int.toNat_natCast,h1]
    refine ⟨fun _=>⟨by omega,by omega,?_⟩,fun h=>by omega⟩
    rw [show IntKind.i64.wrap ((x:Int)+1)=((x+1:Nat):Int) from Zp (by omega) (by omega)]
    exact .mk (x+1) ⟨f,by omega,hx⟩ (by omega) ⟨.refl _,trivial⟩ (by repeat first | exact Zf.turn _ rfl | refine Zf.put rfl ?_) (.refl _)
  ·rw [if_neg h1] at hx
   have h3:¬ bAt s x=32:=fun h=>h1 (.inl h)
   have h4:¬ bAt s x=9:=fun h=>h1 (.inr (.inl h))
   have h5:¬ bAt s x=10:=fun h=>h1 (.inr (.inr h))
   by_cases h2:bAt s x=37
   ·rw [if_pos h2] at hx
    try simp only [go_sem,seval,SQ,Int.toNat_natCast,h2]
    refine ⟨fun _=>⟨by omega,by omega,by omega,by omega,by omega,?_⟩,fun h=>by omega⟩
    refine (S5 _ _).use ?_
    have hn:Lib.indexByte (s.extract x s.size).data.toList (10:Int).toNat.toUInt8=Qe s x:=rfl
    rw [hn]
    have hbd:=JA s x hlt h2
    try simp only [go_sem,seval,SQ]
    refine ⟨fun h=>?_,fun h=>?_⟩
    ·have hbd:=hbd h
     rw [if_pos h] at hx
     rw [show IntKind.i64.wrap ((x:Int)+Qe s x)=((x+(Qe s x).toNat:Nat):Int) from by rw [Zp (by omega) (by omega)];omega]
     exact .mk (x+(Qe s x).toNat) ⟨f,by omega,hx⟩ (by omega) ⟨.refl _,trivial⟩ (by repeat first | exact Zf.turn _ rfl | refine Zf.put rfl ?_) (.refl _)
    ·rw [if_neg h] at hx
     exact .mk s.size ⟨f,by omega,hx⟩ (by omega) ⟨.refl _,trivial⟩ (by repeat first | exact Zf.turn _ rfl | refine Zf.put rfl ?_) (.refl _)
   ·rw [if_neg h2] at hx
    try simp only [go_sem,seval,SQ,Int.toNat_natCast,h2,h3,h4,h5]
    refine ⟨fun _=>⟨by omega,by omega,?_⟩,fun h=>by omega⟩
    rw [← hx]
    exact Zu
 ·have hx2:XG s f x=x:=by
   cases f with
   | zero=>rfl
   | succ f=>rw [XG,if_neg hlt]
  try simp only [go_sem,seval,SQ]
  refine ⟨fun h=>by omega,fun _=>?_⟩
  rw [← hx,hx2]
  exact Zu
end Go.Vx
end
section
namespace Go.Vx
open Go.RowKit
theorem Y6 {σ:Store}{b c:Nat}(h:c≠b):(σ.del b).get c=σ.get c:=by
 induction σ with
 | nil=>rfl
 | cons p r ih =>
   obtain ⟨d,x⟩:=p
   simp only [Store.del]
   by_cases e:d=b
   ·rw [if_pos e];simp only [Store.get];rw [if_neg (by rw [e];exact Ne.symm h)]
   ·rw [if_neg e];simp only [Store.get];rw [ih]
theorem Yv {b:Nat}:∀ {σ:Store},Zx σ b→∀ {b':Nat} {y:AObj},(b',y)∈σ→b'≠b
 | [],_,_,_,h=>by simp at h
 | (c,z)::r,hf,b',y,h=>by
   rcases List.mem_cons.1 h with e | h
   ·injection e with e1 e2;rw [e1];exact hf.1
   ·exact Yv hf.2 h
theorem Sub.set_of {σ S:Store}{b:Nat}{x:AObj}(h:Sub σ S)(hb:Zx σ b):Sub σ (S.set b x) :=
 ⟨fun p hp=>Tl (h.1 _ hp) (Yv hb hp),fun hn=>h.2 (by rw [R1] at hn;exact hn)⟩
theorem X7 {σ S:Store}{b:Nat}(h:∀ p∈σ,p∈S)(k:Zx S b):Zx σ b:=QL fun x hx=>Yv k (h _ hx) rfl
theorem X0 {S:Store}{b:Nat}{x:AObj}:∀ p∈S,p.1≠b→p∈S.set b x:=fun p hp h=>by obtain ⟨c,y⟩:=p;exact Tl hp h
theorem Zj.nodup {P:Program}{f:FuncId}{args:List AV}{σ:Store}{R:ZO→Store→Prop}(he:Xn P f=true)(h:(σ.map (·.1)).Nodup→Zj P f args σ R):Zj P f args σ R :=
 ⟨he,fun w vs hσ hv=>(h hσ.nodup).2 w vs hσ hv⟩
theorem Wk.nilA (r:Rt)(s s':Nat):Wk (.list r s []) (.list .none s' []):=fun L w v h=>by
 cases h with
 | list _ _ _ cap a b o rd hcap hlim hsz ha hr h1 h2=>exact .list .none s' [] cap a b o rd hcap hlim (by simp) ha trivial (by simp) (by simp)
theorem Wk.tup3 {a b c a' b' c':AV}(h1:Wk a a')(h2:Wk b b')(h3:Wk c c'):Wk (.tup [a,b,c]) (.tup [a',b',c']):=.tup rfl (fun i x y hx hy=>by
 match i with
 | 0=>simp at hx hy;subst hx;subst hy;exact h1
 | 1=>simp at hx hy;subst hx;subst hy;exact h2
 | 2=>simp at hx hy;subst hx;subst hy;exact h3
 | i+3=>simp at hx)
theorem Wk.tup2 {a b a' b':AV}(h1:Wk a a')(h2:Wk b b'):Wk (.tup [a,b]) (.tup [a',b']):=.tup rfl (fun i x y hx hy=>by
 match i with
 | 0=>simp at hx hy;subst hx;subst hy;exact h1
 | 1=>simp at hx hy;subst hx;subst hy;exact h2
 | i+2=>simp at hx)
def Has (σ S:Store):Prop:=∀ p∈σ,p∈S
theorem Has.refl (σ:Store):Has σ σ:=fun _ h=>h
theorem Has.cons {σ S:Store}(h:Has σ S)(p:Nat×AObj):Has σ (p::S):=fun q hq=>List.mem_cons_of_mem _ (h q hq)
theorem Has.set {σ S:Store}(h:Has σ S){b:Nat}(hb:Zx σ b)(x:AObj):Has σ (S.set b x):=fun p hp=>X0 p (h p hp) (fun e=>by obtain ⟨k,y⟩:=p;exact Yv hb hp e)
theorem Has.sub {σ S:Store}(h:Has σ S)(hn:(σ.map (·.1)).Nodup):Sub σ S:=⟨h,fun _=>hn⟩
theorem Has.fresh {σ S:Store}(h:Has σ S){b:Nat}(hb:Zx S b):Zx σ b:=X7 h hb
theorem Has.get {σ S:Store}(h:Has σ S)(hn:(S.map (·.1)).Nodup){b:Nat}{x:AObj}(hb:σ.get b=some x):S.get b=some x:=by
 have hm:=h _ (ZW hb)
 induction S with
 | nil=>cases hm
 | cons p r ih =>
   obtain ⟨c,y⟩:=p
   simp only [List.map_cons,List.nodup_cons] at hn
   by_cases e:c=b
   ·subst e
    rcases List.mem_cons.1 hm with e | hm
    ·injection e with _ e;rw [e,Zi]
    ·exact absurd (List.mem_map_of_mem (f:=(·.1)) hm) hn.1
   ·rcases List.mem_cons.1 hm with e2 | hm
    ·injection e2 with e2 _;exact absurd e2.symm e
    ·rw [Za e]
     clear ih
     have:∀ (r:Store),(r.map (·.1)).Nodup→(b,x)∈r→Store.get r b=some x:=by
      intro r
      induction r with
      | nil=>intro _ h;cases h
      | cons q r ih =>
        obtain ⟨d,z⟩:=q
        intro hn hm
        simp only [List.map_cons,List.nodup_cons] at hn
        rcases List.mem_cons.1 hm with e | hm
        ·injection e with e1 e2;rw [e1,e2,Zi]
        ·have hne:d≠b:=fun e=>hn.1 (by rw [e];exact List.mem_map_of_mem (f:=(·.1)) hm)
         rw [Za hne];exact ih hn.2 hm
     exact this r hn.2 hm
def LV (σ0 S:Store)(v:AV)(sz:Nat)(es:List (List AV)):Prop :=
 ∃ rt s',v=.list rt s' es∧(s'=sz∨es=[])∧((rt=.full∧es=[])∨∃ b e c,rt=.tip b e c∧s'=sz∧S.get b=some (.tail e c)∧Zx σ0 b)
theorem LV.nil (σ0 S:Store)(sz:Nat):LV σ0 S (.list .full 0 []) sz []:=⟨_,_,rfl,.inr rfl,.inl ⟨rfl,rfl⟩⟩
theorem LV.one {σ0 S:Store}{v:AV}{sz:Nat}{es:List (List AV)}(h:LV σ0 S v sz es):v.one=true:=by obtain ⟨rt,s',rfl,_⟩:=h;rfl
theorem LV.cells {σ0 S:Store}{v:AV}{sz:Nat}{es:List (List AV)}(h:LV σ0 S v sz es):v.cells=some [v]:=by obtain ⟨rt,s',rfl,_⟩:=h;rfl
theorem LV.wk {σ0 S:Store}{v:AV}{sz:Nat}{es:List (List AV)}(h:LV σ0 S v sz es):Wk v (.list .none sz es):=by
 obtain ⟨rt,s',rfl,hz,_⟩:=h
 rcases hz with rfl | rfl
 ·exact .list _ _ _
 ·exact .nilA _ _ _
def Se (S S':Store):Prop:=∀ k x,S.get k=some x→(∀ e c,x≠.tail e c)→S'.get k=some x
theorem Se.refl (S:Store):Se S S:=fun _ _ h _=>h
theorem Se.trans {a b c:Store}(h:Se a b)(k:Se b c):Se a c:=fun i x hi hx=>k i x (h i x hi hx) hx
theorem Se.cons {S:Store}{b:Nat}(hb:Zx S b)(x:AObj):Se S ((b,x)::S):=fun k y hk _=>by rw [Zy hb (by rw [hk];rfl)];exact hk
theorem LV.keep {σ0 S S':Store}{v:AV}{sz:Nat}{es:List (List AV)}(h:LV σ0 S v sz es)(k:∀ b x,S.get b=some x→S'.get b=some x):LV σ0 S' v sz es:=by
 obtain ⟨rt,s',e,hz,ht⟩:=h
 exact ⟨rt,s',e,hz,ht.imp id (fun ⟨b,e,c,h1,h2,h3,h4⟩=>⟨b,e,c,h1,h2,k _ _ h3,h4⟩)⟩
theorem LV.cons {σ0 S:Store}{v:AV}{sz:Nat}{es:List (List AV)}(h:LV σ0 S v sz es){b:Nat}(hb:Zx S b)(x:AObj):LV σ0 ((b,x)::S) v sz es :=
 h.keep (fun k y hk=>by rw [Zy hb (by rw [hk];rfl)];exact hk)
theorem LV.set {σ0 S:Store}{v:AV}{sz:Nat}{es:List (List AV)}(h:LV σ0 S v sz es){b:Nat}{y:AObj}(hb:S.get b=some y)(hy:∀ e c,y≠.tail e c)(x:AObj):LV σ0 (S.set b x) v sz es:=by
 obtain ⟨rt,s',e,hz,ht⟩:=h
 exact ⟨rt,s',e,hz,ht.imp id (fun ⟨b',e,c,h1,h2,h3,h4⟩=>⟨b',e,c,h1,h2,by rw [Zb (fun e'=>by rw [e',hb] at h3;injection h3 with h3;exact hy _ _ h3)];exact h3,h4⟩)⟩
theorem LV.append {sz by_:Nat}{z:Value}{σ0 S:Store}{v:AV}{es ys:List (List AV)}{r2:Rt}{s2:Nat}{K:AV→Store→Prop}(h:LV σ0 S v sz es)
 (hzs:z.cells.size=sz) (hb5:by_≤512) (hl:es.length+ys.length≤137438953472) (h2:s2=sz) (hne:ys≠[]) (hH:Has σ0 S) (k:∀ v' S',LV σ0 S' v' sz (es++ys)→Se S S'→Has σ0 S'→K v' S'):apZ (some sz) (some z) (some by_) v (.list r2 s2 ys) S K:=by
 obtain ⟨rt,s',rfl,hsz,ht⟩:=h
 have go:∀ (S1:Store) (b e c:Nat),(S1=S∨∃ b0 e0 c0,S.get b0=some (.tail e0 c0)∧Zx σ0 b0∧S1=S.del b0)→Zx S1 b→K (.list (.tip b e c) sz (es++ys)) ((b,.tail e c)::S1):=by
  intro S1 b e c hS1 hb
  have kept1:Se S S1:=by
   intro k x hk hx
   rcases hS1 with rfl | ⟨b0,e0,c0,hg,_,rfl⟩
   ·exact hk
   ·rw [Y6 (fun e=>by rw [e,hg] at hk;injection hk with hk;exact hx _ _ hk.symm)];exact hk
  have has1:Has σ0 S1:=by
   intro p hp
   rcases hS1 with rfl | ⟨b0,e0,c0,hg,hf,rfl⟩
   ·exact hH p hp
   ·obtain ⟨k,x⟩:=p
    exact Vc (hH _ hp) (Yv hf hp)
  exact k _ _ ⟨_,_,rfl,.inl rfl,.inr ⟨b,e,c,rfl,rfl,Zi _ _ _,has1.fresh hb⟩⟩ (kept1.trans (.cons hb _)) (has1.cons _)
 unfold apZ
 refine ⟨hzs,hb5,by simp only [lim];exact hl,hsz,.inl h2,?_⟩
 rcases ht with ⟨rfl,rfl⟩ | ⟨b0,e0,c0,rfl,rfl,hg,hf⟩
 ·exact ⟨fun h=>absurd h hne,fun _ b e c hb=>go S b e c (.inl rfl) hb⟩
 ·exact ⟨hg,rfl,fun b e c hb=>go _ b e c (.inr ⟨b0,e0,c0,hg,hf,rfl⟩) hb⟩
theorem UV {P:Program}{t kt et:TypeId}{z:Value}{r c:Nat}{l:List (Int×AV×Nat)}{x:Int}{ok:Bool}{S:Store}{K:AV→Prop}(ht:P.underlying t=some (.map kt et))(hk:P.underlying kt=some (.int .i64))(hz:Zl P et=some z)
 (hg:S.get r=some (.map (ZM keI l) c)) (k:K (lkV z (XU l x) ok)):M7 P t (.val (.map (some r))) (.val (.int .i64 x)) ok S K :=
 ⟨Int,inferInstance,keI,r,c,l,x,kt,et,z,ht,Qt hk,rfl,rfl,hg,hz,k⟩
theorem Y3 {P:Program}{t kt et:TypeId}{r c:Nat}{l:List (Int×AV×Nat)}{x:Int}{v:AV}{S:Store}{K:Store→Prop}(ht:P.underlying t=some (.map kt et))(hk:P.underlying kt=some (.int .i64))
 (hg:S.get r=some (.map (ZM keI l) c)) (k:K (S.set r (.map (ZM keI (VL l x v c)) (Uh l x c)))):Vk P t (.val (.map (some r))) (.val (.int .i64 x)) v S K :=
 ⟨Int,inferInstance,keI,r,c,l,x,kt,et,ht,Qt hk,rfl,rfl,hg,k⟩
theorem HJ {P:Program}{t kt et:TypeId}{z:Value}{r c:Nat}{l:List (ByteArray×AV×Nat)}{x:ByteArray}{ok:Bool}{S:Store}{K:AV→Prop}(ht:P.underlying t=some (.map kt et))(hk:P.underlying kt=some .string)(hz:Zl P et=some z)
 (hg:S.get r=some (.map (ZM keS l) c)) (k:K (lkV z (XU l x) ok)):M7 P t (.val (.map (some r))) (.val (.string x)) ok S K :=
 ⟨ByteArray,inferInstance,keS,r,c,l,x,kt,et,z,ht,Qs hk,rfl,rfl,hg,hz,k⟩
theorem Rf {P:Program}{t kt et:TypeId}{r c:Nat}{l:List (ByteArray×AV×Nat)}{x:ByteArray}{v:AV}{S:Store}{K:Store→Prop}(ht:P.underlying t=some (.map kt et))(hk:P.underlying kt=some .string)
 (hg:S.get r=some (.map (ZM keS l) c)) (k:K (S.set r (.map (ZM keS (VL l x v c)) (Uh l x c)))):Vk P t (.val (.map (some r))) (.val (.string x)) v S K :=
 ⟨ByteArray,inferInstance,keS,r,c,l,x,kt,et,ht,Qs hk,rfl,rfl,hg,k⟩
theorem Mk (z:Value)(o:Option AV):lkV z o false=o.getD (cW z):=rfl
end Go.Vx
end
