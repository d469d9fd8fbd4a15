/- Part Q17 of the proof of treeLooksProved: the walk of the program on abstract values, and the plain law. -/
import Derived.Test.YtmedmnondjmleaaGreatQ16
set_option linter.unusedVariables false
set_option linter.unusedSimpArgs false
set_option maxRecDepth 100000
namespace Go.Vx
open Go.Proofs
theorem NZ:(Zh Tryz.prog 9=some 1)∧(Ze Tryz.prog 9=some false)∧(Tryz.prog.underlying 9=some .string)∧(ZA Tryz.prog 322=none)∧(Zh Tryz.prog 4=some 1)∧(Tryz.prog.underlying 322=some (.array 256 4))∧(Ze Tryz.prog 4=some false):=by
 refine ⟨?_,?_,?_,?_,?_,?_,?_⟩<;>first | trivial | kernel_rfl
theorem Gb:(Zl Tryz.prog 203=some (.agg #[(.int .i64 0),(.string ⟨#[]⟩),(.int .i64 0)]))∧(Zh Tryz.prog 9=some 1)∧(Ze Tryz.prog 9=some false)∧(Tryz.prog.underlying 9=some .string)∧(Zh Tryz.prog 3=some 1)∧(Ze Tryz.prog 3=some false)∧(Yx Tryz.prog 203=some [(0,1),(1,1),(2,1)])∧(Zh Tryz.prog 203=some 3)∧(Ze Tryz.prog 203=some true):=by
 refine ⟨?_,?_,?_,?_,?_,?_,?_,?_,?_⟩<;>first | trivial | kernel_rfl
theorem Zr:(Zl Tryz.prog 203=some (.agg #[(.int .i64 0),(.string ⟨#[]⟩),(.int .i64 0)]))∧(Zh Tryz.prog 3=some 1)∧(Ze Tryz.prog 3=some false)∧(Tryz.prog.underlying 9=some .string)∧(Zl Tryz.prog 9=some (.string ⟨#[]⟩))∧(Zh Tryz.prog 9=some 1)∧(Zl Tryz.prog 322=some (.agg #[(.bool false),(.bool false),(.bool false),(.bool false),(.bool false),(.bool false),(.bool false),(.bool false),(.bool false),(.bool false),(.bool false),(.bool false),(.bool false),(.bool false),(.bool false),(.bool false),(.bool false),(.bool false),(.bool false),(.bool false),(.bool false),(.bool false),(.bool false),(.bool false),(.bool false),(.bool false),(.bool false),(.bool false),(.bool false),(.bool false),(.bool false),(.bool false),(.bool false),(.bool false),(.bool false),(.bool false),(.bool false),(.bool false),(.bool false),(.bool false),(.bool false),(.bool false),(.bool false),(.bool false),(.bool false),(.bool false),(.bool false),(.bool false),(.bool false),(.bool false),(.bool false),(.bool false),(.bool false),(.bool false),(.bool false),(.bool false),(.bool false),(.bool false),(.bool false),(.bool false),(.bool false),(.bool false),(.bool false),(.bool false),(.bool false),(.bool false),(.bool false),(.bool false),(.bool false),(.bool false),(.bool false),(.bool false),(.bool false),(.bool false),(.bool false),(.bool false),(.bool false),(.bool false),(.bool false),(.bool false),(.bool false),(.bool false),(.bool false),(.bool false),(.bool false),(.bool false),(.bool false),(.bool false),(.bool false),(.bool false),(.bool false),(.bool false),(.bool false),(.bool false),(.bool false),(.bool false),(.bool false),(.bool false),(.bool false),(.bool false),(.bool false),(.bool false),(.bool false),(.bool false),(.bool false),(.bool false),(.bool false),(.bool false),(.bool false),(.bool false),(.bool false),(.bool false),(.bool false),(.bool false),(.bool false),(.bool false),(.bool false),(.bool false),(.bool false),(.bool false),(.bool false),(.bool false),(.bool false),(.bool false),(.bool false),(.bool false),(.bool false),(.bool false),(.bool false),(.bool false),(.bool false),(.bool false),(.bool false),(.bool false),(.bool false),(.bool false),(.bool false),(.bool false),(.bool false),(.bool false),(.bool false),(.bool false),(.bool false),(.bool false),(.bool false),(.bool false),(.bool false),(.bool false),(.bool false),(.bool false),(.bool false),(.bool false),(.bool false),(.bool false),(.bool false),(.bool false),(.bool false),(.bool false),(.bool false),(.bool false),(.bool false),(.bool false),(.bool false),(.bool false),(.bool false),(.bool false),(.bool false),(.bool false),(.bool false),(.bool false),(.bool false),(.bool false),(.bool false),(.bool false),(.bool false),(.bool false),(.bool false),(.bool false),(.bool false),(.bool false),(.bool false),(.bool false),(.bool false),(.bool false),(.bool false),(.bool false),(.bool false),(.bool false),(.bool false),(.bool false),(.bool false),(.bool false),(.bool false),(.bool false),(.bool false),(.bool false),(.bool false),(.bool false),(.bool false),(.bool false),(.bool false),(.bool false),(.bool false),(.bool false),(.bool false),(.bool false),(.bool false),(.bool false),(.bool false),(.bool false),(.bool false),(.bool false),(.bool false),(.bool false),(.bool false),(.bool false),(.bool false),(.bool false),(.bool false),(.bool false),(.bool false),(.bool false),(.bool false),(.bool false),(.bool false),(.bool false),(.bool false),(.bool false),(.bool false),(.bool false),(.bool false),(.bool false),(.bool false),(.bool false),(.bool false),(.bool false),(.bool false),(.bool false),(.bool false),(.bool false),(.bool false),(.bool false),(.bool false),(.bool false),(.bool false),(.bool false),(.bool false),(.bool false),(.bool false),(.bool false),(.bool false),(.bool false),(.bool false),(.bool false),(.bool false),(.bool false)]))∧(Zh Tryz.prog 322=some 256)∧(Ze Tryz.prog 9=some false)∧(Zh Tryz.prog 203=some 3)∧(ZA Tryz.prog 322=none)∧(Zh Tryz.prog 4=some 1)∧(Tryz.prog.underlying 322=some (.array 256 4))∧(Ze Tryz.prog 4=some false)∧(Yx Tryz.prog 203=some [(0,1),(1,1),(2,1)])∧(Ze Tryz.prog 203=some true):=by
 refine ⟨?_,?_,?_,?_,?_,?_,?_,?_,?_,?_,?_,?_,?_,?_,?_,?_⟩<;>first | trivial | kernel_rfl
theorem aJ:(ZA Tryz.prog 64=some 9)∧(Zh Tryz.prog 9=some 1)∧(Zl Tryz.prog 9=some (.string ⟨#[]⟩)):=by
 refine ⟨?_,?_,?_⟩<;>first | trivial | kernel_rfl
abbrev Wr:Str:={ data:=#[97,98,99,100,101,102,103,104,105,106,107,108,109,110,111,112,113,114,115,116,117,118,119,120,121,122,65,66,67,68,69,70,71,72,73,74,75,76,77,78,79,80,81,82,83,84,85,86,87,88,89,90,48,49,50,51,52,53,54,55,56,57,95,39] }
def letCs:List AV:=Yq Wr Wr.size
def Qr (x:Int):Bool:=decide (∃ i,i<Wr.size∧i<Wr.size∧bAt Wr i=x)
theorem Mq (x:Int)(h0:0≤x)(h1:x<256):(List.drop (x.toNat * 1) letCs).head?=some (vb (Qr x)):=by
 rw [List.head?_drop,Nat.mul_one]
 unfold letCs Yq Qr
 rw [List.getElem?_map,List.getElem?_range (by omega)]
 simp only [Option.map_some,Option.some.injEq]
 refine congrArg (fun p=>vb p) (decide_eq_decide.2 ?_)
 rw [show ((x.toNat:Nat):Int)=x by omega]
theorem IP:letCs.length=256:=XV _ _
theorem IM:letCs.all AV.one=true:=by simp [letCs,Yq,AV.one,Value.oneCell']
def Vm (s:Str):Nat→Nat→Nat
 | 0,n=>n
 | f+1,n=>if n<s.size∧Qr (bAt s n)=true then Vm s f (n+1) else n
theorem VQ (s:Str):∀ f n,n≤s.size→n≤Vm s f n∧Vm s f n≤s.size:=by
 intro f
 induction f with
 | zero=>intro n h;exact ⟨Nat.le_refl _,h⟩
 | succ f ih =>
   intro n h
   rw [Vm]
   split
   ·have:=ih (n+1) (by omega);omega
   ·omega
theorem GN (s:Str)(n bt bw:Nat)(hn:n≤s.size)(hsz:s.size≤20000)(σ:Store)(gt:σ.get bt=some (.cells [vs s]))(gw:σ.get bw=some (.cells letCs)) :
 Zj Tryz.prog 280 [vi n,.val (.pointer (some ⟨bt,0,none⟩)),.val (.pointer (some ⟨bw,0,none⟩))] σ (Z8 (vi (Vm s (s.size+1) n)) σ):=by
 refine Zc [] [] Tryz.func280 rfl (by kernel_rfl) ?_;rw [Tryz.ntmps280,Tryz.results280]
 try simp only [go_sem,seval,NZ]
 refine Zv (mu:=[]) (dr:=[]) [0,5,6,7,8,9,10,11,12,13,14,15,16,17] (fun x:Nat=>[(0,vi x)]) (fun _=>σ) (fun x=>x≤s.size∧∃ f,s.size-x<f∧Vm s f x=Vm s (s.size+1) n) (fun x=>s.size-x) n (by kernel_rfl) ⟨hn,_,by omega,rfl⟩ ⟨.refl _,trivial⟩ (.refl _) ?_
 rintro x ⟨hxs,f,hf,hx⟩
 obtain ⟨f,rfl⟩:∃ g,f=g+1:=⟨f-1,by omega⟩
 rw [Vm] at hx
 by_cases hlt:x<s.size
 ·try simp only [go_sem,seval,NZ,gt,gw,Int.toNat_natCast,Mq _ (SH s x).1 (SH s x).2,hlt]
  have hb:=SH s x
  cases hl:Qr (bAt s x) with
  | true =>
    rw [if_pos ⟨hlt,hl⟩] at hx
    try simp only [go_sem,seval,NZ,hl]
    refine ⟨fun _=>⟨by omega,by omega,hb.1,hb.2,?_⟩,fun h=>by omega⟩
    rw [show IntKind.i64.wrap ((x:Int)+1)=((x+1:Nat):Int) from Zp (by omega) (by omega)]
    exact .mk (x+1) ⟨by omega,f,by omega,hx⟩ (by omega) ⟨.refl _,trivial⟩ (by repeat first | exact Zf.turn _ rfl | refine Zf.put rfl ?_) (.refl _)
  | false =>
    rw [if_neg (fun h=>by rw [hl] at h;simp at h)] at hx
    try simp only [go_sem,seval,NZ,hl]
    refine ⟨fun _=>⟨by omega,by omega,hb.1,hb.2,?_⟩,fun h=>by omega⟩
    rw [← hx]
    exact Zu
 ·rw [if_neg (fun h=>hlt h.1)] at hx
  try simp only [go_sem,seval,NZ,gt,gw,hlt]
  refine ⟨fun h=>by omega,fun _=>?_⟩
  rw [← hx]
  exact Zu
theorem Xw (s:Str)(k:Int)(n a bt ba:Nat)(hn:n≤s.size)(σ:Store)(gt:σ.get bt=some (.cells [vs s]))(ga:σ.get ba=some (.cells [vi a])) :
 Zj Tryz.prog 281 [vi k,vi n,.val (.pointer (some ⟨bt,0,none⟩)),.val (.pointer (some ⟨ba,0,none⟩))] σ (Z8 (.tup [.agg [vi k,vs (s.extract 0 n),vi a],vb true]) σ):=by
 refine Zc [] [(1,5,0)] Tryz.func281 rfl (by kernel_rfl) ?_;rw [Tryz.ntmps281,Tryz.results281]
 try simp only [go_sem,seval,Gb]
 intro b hb
 try simp only [go_sem,seval,Gb,hb,gt,ga,Int.toNat_natCast]
 refine ⟨by omega,by omega,?_⟩
 try simp only [go_sem,seval,Gb,hb,gt,ga,Int.toNat_natCast]
 exact ZE (.refl _) (.cons _ _)
def XW:List Str:=[{ data:=#[116,121,112,101] },{ data:=#[99,111,110,115,116] },{ data:=#[112,114,101,100] },{ data:=#[102,97,99,116] },{ data:=#[108,97,115,116,105,110,103] },{ data:=#[109,111,100,101] },{ data:=#[114,117,108,101] },{ data:=#[111,110,99,101] },{ data:=#[109,111,115,116] },{ data:=#[113,117,101,114,121] },{ data:=#[109,111,100,117,108,101] },{ data:=#[117,115,101] },{ data:=#[101,120,112,111,114,116] },{ data:=#[97,108,108] },{ data:=#[101,120] },{ data:=#[111,110,101] },{ data:=#[116,111,112] }]
theorem YH:Pur Tryz.prog 283 [] (.list .full 1 (Tk XW)):=by
 intro σ
 refine Zc [] [] Tryz.func283 rfl (by kernel_rfl) ?_;rw [Tryz.ntmps283,Tryz.results283]
 try simp only [go_sem,seval,aJ]
 exact ⟨by decide,Zu⟩
abbrev wO:Str:={ data:=#[111] }
abbrev BO:Str:={ data:=#[42,38,43,33,123,125,40,41,46,44,58,92] }
abbrev Nc (b:Int):Prop:=97≤b∧b≤122
abbrev Qw (b:Int):Prop:=65≤b∧b≤90
def Ti (r:Str):Nat:=if Vm r (r.size+1) 0+1<r.size∧bAt r (Vm r (r.size+1) 0)=64∧Nc (bAt r (Vm r (r.size+1) 0+1)) then Vm r (r.size+1) (Vm r (r.size+1) 0+1) else Vm r (r.size+1) 0
def Yg (r:Str):Option (Int×Nat) :=
 if Nc (bAt r 0) then
  (if r.extract 0 (Ti r)=wO∧1<r.size∧bAt r 1=45 then some (3,2) else if r.extract 0 (Ti r)∈XW then some (4,Ti r) else some (1,Ti r))
 else if Qw (bAt r 0) then some (2,Vm r (r.size+1) 0)
 else if Xx r { data:=#[45,62] }∨Xx r { data:=#[61,62] }∨Xx r { data:=#[60,61] } then some (3,2)
 else if Xx r { data:=#[45,111] } then (if r.size=2∨Qr (bAt r 2)=false then some (3,2) else none)
 else if 0≤Lib.indexByte BO.data.toList (bAt r 0).toNat.toUInt8 then some (3,1) else none
def Y9 (r:Str)(a:Nat):AV:=match Yg r with
 | some (k,n)=>.tup [.agg [vi k,vs (r.extract 0 n),vi a],vb true]
 | none=>.tup [.agg [vi 0,vs { data:=#[] },vi 0],vb false]
theorem DC (s:Str)(a:Nat)(ha:a<s.size)(hsz:s.size≤20000):Pur Tryz.prog 277 [vs s,vi a] (Y9 (s.extract a s.size) a):=by
 intro σ
 obtain ⟨r,hr⟩:∃ r:Str,r=s.extract a s.size:=⟨_,rfl⟩
 have hrs:r.size=s.size-a:=by rw [hr];simp [ByteArray.size_extract]
 rw [← hr]
 refine Zc [3] [(12,4,0)] Tryz.func277 rfl (by kernel_rfl) ?_;rw [Tryz.ntmps277,Tryz.results277]
 try simp only [go_sem,seval,Zr]
 intro b3 hb3 b4 hb4
 try simp only [go_sem,seval,Zr,Int.toNat_natCast,hb3,hb4,← hr]
 refine ⟨by omega,by omega,by omega,fun b6 hb6=>?_⟩
 try simp only [go_sem,seval,Zr,Int.toNat_natCast,hb3,hb4,hb6]
 refine (Hp Wr (by decide)).use ?_
 have hcl:Yq Wr Wr.size=letCs:=rfl
 rw [hcl]
 try simp only [go_sem,seval,Zr,Int.toNat_natCast,hb3,hb4,hb6,IP,IM]
 intro b7 hb7
 obtain ⟨S,hS⟩:∃ S:Store,S=(b7,AObj.cells letCs)::(b6,.cells [vs r])::(b4,.cells [vi 0,vs { data:=#[] },vi 0])::(b3,.cells [vi a])::σ:=⟨_,rfl⟩
 have G4':Store.get ((b6,AObj.cells [vs r])::(b4,.cells [vi 0,vs { data:=#[] },vi 0])::(b3,.cells [vi a])::σ) b4=some (.cells [vi 0,vs { data:=#[] },vi 0]):=by rw [Zy hb6 (by rw [Zi];rfl),Zi]
 have G3'':Store.get ((b4,AObj.cells [vi 0,vs { data:=#[] },vi 0])::(b3,.cells [vi a])::σ) b3=some (.cells [vi a]):=by rw [Zy hb4 (by rw [Zi];rfl),Zi]
 have G3':Store.get ((b6,AObj.cells [vs r])::(b4,.cells [vi 0,vs { data:=#[] },vi 0])::(b3,.cells [vi a])::σ) b3=some (.cells [vi a]):=by rw [Zy hb6 (by rw [G3''];rfl),G3'']
 have G7:S.get b7=some (.cells letCs):=by rw [hS,Zi]
 have G6:S.get b6=some (.cells [vs r]):=by rw [hS,Zy hb7 (by rw [Zi];rfl),Zi]
 have G4:S.get b4=some (.cells [vi 0,vs { data:=#[] },vi 0]):=by rw [hS,Zy hb7 (by rw [G4'];rfl),G4']
 have G3:S.get b3=some (.cells [vi a]):=by rw [hS,Zy hb7 (by rw [G3'];rfl),G3']
 have hsub0:Sub σ S:=by rw [hS];exact (((Sub.refl σ).skip _).skip _).skip _ |>.skip _
 have hf4:Zx σ b4:=hb4.2
 have hsub:∀ x,Sub σ (S.set b4 x):=fun x=>hsub0.set_of hf4
 rw [← hS]
 clear hS hb7 hb6 hb4 hb3 G4' G3'' G3' hcl
 try simp only [go_sem,seval,Zr,Int.toNat_zero,G6]
 have hr0:0<r.size:=by omega
 refine ⟨by omega,?_⟩
 refine (Jq _).use ?_
 by_cases hs:Nc (bAt r 0)
 ·try simp only [go_sem,seval,Zr,hs]
  refine (GN r 0 b6 b7 (by omega) (by omega) S G6 G7).mono ?_
  rintro r' σ' ⟨h1,h2⟩
  rw [h1,h2]
  clear h1 h2 r' σ'
  obtain ⟨n1,hn1⟩:∃ n1,n1=Vm r (r.size+1) 0:=⟨_,rfl⟩
  have hb1:=VQ r (r.size+1) 0 (by omega)
  rw [← hn1] at hb1 ⊢
  have hw1:IntKind.i64.wrap ((n1:Int)+1)=((n1+1:Nat):Int):=Zp (by omega) (by omega)
  by_cases hA:n1+1<r.size
  ·have hA':((n1+1:Nat):Int)<r.size:=by omega
   have e1:(((n1+1:Nat):Int)<r.size)=True:=eq_true hA'
   by_cases hB:bAt r n1=64
   ·try simp only [go_sem,seval,Zr,Int.toNat_natCast,G6,hw1,e1,decide_true]
    refine ⟨by omega,by omega,?_⟩
    try simp only [go_sem,seval,Zr,Int.toNat_natCast,G6,hw1,hB,decide_true]
    repeat refine And.intro (by omega) ?_
    refine (Jq _).use ?_
    by_cases hC:Nc (bAt r (n1+1))
    ·try simp only [go_sem,seval,Zr,Int.toNat_natCast,G6,hw1,hC]
     refine (GN r (n1+1) b6 b7 (by omega) (by omega) S G6 G7).mono ?_
     rintro r' σ' ⟨h1,h2⟩
     rw [h1,h2]
     clear h1 h2 r' σ'
     obtain ⟨n2,hn2⟩:∃ n2,n2=Vm r (r.size+1) (n1+1):=⟨_,rfl⟩
     have hb2:=VQ r (r.size+1) (n1+1) (by omega)
     rw [← hn2] at hb2 ⊢
     have hN:Ti r=n2:=by unfold Ti;rw [← hn1,if_pos ⟨hA,hB,hC⟩,hn2]
     try simp only [go_sem,seval,Zr,Int.toNat_natCast,G6]
     have kw:¬ (r.extract 0 n2=wO∧1<r.size∧bAt r 1=45)→∀ (_:Unit),Yg r=if r.extract 0 n2∈XW then some (4,n2) else some (1,n2):=fun h _=>by unfold Yg;rw [if_pos hs,hN,if_neg h]
     by_cases hO:r.extract 0 n2=wO
     ·by_cases hZ:1<r.size
      ·by_cases h45:bAt r 1=45
       ·have htok:Yg r=some (3,2):=by unfold Yg;rw [if_pos hs,hN,if_pos ⟨hO,hZ,h45⟩]
        refine ef ?_
        refine ⟨by omega,by omega,?_⟩
        refine ef ?_
        refine ⟨fun _=>⟨by omega,?_⟩,fun h=>by omega⟩
        refine eQ ?_
        refine (Xw r 3 2 a b6 b3 (by omega) S G6 G3).mono ?_
        rintro r' σ' ⟨h1,h2⟩
        rw [h1,h2]
        refine eH ?_
        refine .mk (.refl _) (hsub _) ⟨?_,rfl⟩
        exact eT
       ·have kw:=kw (fun h=>h45 h.2.2) ()
        refine ef ?_
        refine ⟨by omega,by omega,?_⟩
        refine ef ?_
        refine ⟨fun _=>⟨by omega,?_⟩,fun h=>by omega⟩
        refine eQ ?_
        refine YH.head ?_
        refine eM ?_
        refine ⟨by omega,by omega,?_⟩
        refine (Z5 XW (r.extract 0 n2) .full 1 (.inl rfl)).use ?_
        by_cases hk:r.extract 0 n2∈XW
        ·have htok:Yg r=some (4,n2):=by rw [kw,if_pos hk]
         refine eL ?_
         refine (Xw r 4 n2 a b6 b3 (by omega) S G6 G3).mono ?_
         rintro r' σ' ⟨h1,h2⟩
         rw [h1,h2]
         refine eH ?_
         refine .mk (.refl _) (hsub _) ⟨?_,rfl⟩
         exact eT
        ·have htok:Yg r=some (1,n2):=by rw [kw,if_neg hk]
         refine eK ?_
         refine (Xw r 1 n2 a b6 b3 (by omega) S G6 G3).mono ?_
         rintro r' σ' ⟨h1,h2⟩
         rw [h1,h2]
         refine eH ?_
         refine .mk (.refl _) (hsub _) ⟨?_,rfl⟩
         exact eT
      ·have kw:=kw (fun h=>hZ h.2.1) ()
       refine ef ?_
       refine ⟨by omega,by omega,?_⟩
       refine ef ?_
       refine ⟨fun h=>by omega,fun _=>?_⟩
       refine fD ?_
       refine YH.head ?_
       refine eM ?_
       refine ⟨by omega,by omega,?_⟩
       refine (Z5 XW (r.extract 0 n2) .full 1 (.inl rfl)).use ?_
       by_cases hk:r.extract 0 n2∈XW
       ·have htok:Yg r=some (4,n2):=by rw [kw,if_pos hk]
        refine eL ?_
        refine (Xw r 4 n2 a b6 b3 (by omega) S G6 G3).mono ?_
        rintro r' σ' ⟨h1,h2⟩
        rw [h1,h2]
        refine eH ?_
        refine .mk (.refl _) (hsub _) ⟨?_,rfl⟩
        exact eT
       ·have htok:Yg r=some (1,n2):=by rw [kw,if_neg hk]
        refine eK ?_
        refine (Xw r 1 n2 a b6 b3 (by omega) S G6 G3).mono ?_
        rintro r' σ' ⟨h1,h2⟩
        rw [h1,h2]
        refine eH ?_
        refine .mk (.refl _) (hsub _) ⟨?_,rfl⟩
        exact eT
     ·have kw:=kw (fun h=>hO h.1) ()
      refine ef ?_
      refine ⟨by omega,by omega,?_⟩
      refine ef ?_
      refine YH.head ?_
      refine eM ?_
      refine ⟨by omega,by omega,?_⟩
      refine (Z5 XW (r.extract 0 n2) .full 1 (.inl rfl)).use ?_
      by_cases hk:r.extract 0 n2∈XW
      ·have htok:Yg r=some (4,n2):=by rw [kw,if_pos hk]
       refine eL ?_
       refine (Xw r 4 n2 a b6 b3 (by omega) S G6 G3).mono ?_
       rintro r' σ' ⟨h1,h2⟩
       rw [h1,h2]
       refine eH ?_
       refine .mk (.refl _) (hsub _) ⟨?_,rfl⟩
       exact eT
      ·have htok:Yg r=some (1,n2):=by rw [kw,if_neg hk]
       refine eK ?_
       refine (Xw r 1 n2 a b6 b3 (by omega) S G6 G3).mono ?_
       rintro r' σ' ⟨h1,h2⟩
       rw [h1,h2]
       refine eH ?_
       refine .mk (.refl _) (hsub _) ⟨?_,rfl⟩
       exact eT
    ·have hN:Ti r=n1:=by unfold Ti;rw [← hn1,if_neg (fun h=>hC h.2.2)]
     try simp only [go_sem,seval,Zr,Int.toNat_natCast,G6,hw1,hC]
     obtain ⟨n2,rfl⟩:∃ n2,n2=n1:=⟨_,rfl⟩
     have kw:¬ (r.extract 0 n2=wO∧1<r.size∧bAt r 1=45)→∀ (_:Unit),Yg r=if r.extract 0 n2∈XW then some (4,n2) else some (1,n2):=fun h _=>by unfold Yg;rw [if_pos hs,hN,if_neg h]
     by_cases hO:r.extract 0 n2=wO
     ·by_cases hZ:1<r.size
      ·by_cases h45:bAt r 1=45
       ·have htok:Yg r=some (3,2):=by unfold Yg;rw [if_pos hs,hN,if_pos ⟨hO,hZ,h45⟩]
        refine ef ?_
        refine ⟨by omega,by omega,?_⟩
        refine ef ?_
        refine ⟨fun _=>⟨by omega,?_⟩,fun h=>by omega⟩
        refine eQ ?_
        refine (Xw r 3 2 a b6 b3 (by omega) S G6 G3).mono ?_
        rintro r' σ' ⟨h1,h2⟩
        rw [h1,h2]
        refine eH ?_
        refine .mk (.refl _) (hsub _) ⟨?_,rfl⟩
        exact eT
       ·have kw:=kw (fun h=>h45 h.2.2) ()
        refine ef ?_
        refine ⟨by omega,by omega,?_⟩
        refine ef ?_
        refine ⟨fun _=>⟨by omega,?_⟩,fun h=>by omega⟩
        refine eQ ?_
        refine YH.head ?_
        refine eM ?_
        refine ⟨by omega,by omega,?_⟩
        refine (Z5 XW (r.extract 0 n2) .full 1 (.inl rfl)).use ?_
        by_cases hk:r.extract 0 n2∈XW
        ·have htok:Yg r=some (4,n2):=by rw [kw,if_pos hk]
         refine eL ?_
         refine (Xw r 4 n2 a b6 b3 (by omega) S G6 G3).mono ?_
         rintro r' σ' ⟨h1,h2⟩
         rw [h1,h2]
         refine eH ?_
         refine .mk (.refl _) (hsub _) ⟨?_,rfl⟩
         exact eT
        ·have htok:Yg r=some (1,n2):=by rw [kw,if_neg hk]
         refine eK ?_
         refine (Xw r 1 n2 a b6 b3 (by omega) S G6 G3).mono ?_
         rintro r' σ' ⟨h1,h2⟩
         rw [h1,h2]
         refine eH ?_
         refine .mk (.refl _) (hsub _) ⟨?_,rfl⟩
         exact eT
      ·have kw:=kw (fun h=>hZ h.2.1) ()
       refine ef ?_
       refine ⟨by omega,by omega,?_⟩
       refine ef ?_
       refine ⟨fun h=>by omega,fun _=>?_⟩
       refine fD ?_
       refine YH.head ?_
       refine eM ?_
       refine ⟨by omega,by omega,?_⟩
       refine (Z5 XW (r.extract 0 n2) .full 1 (.inl rfl)).use ?_
       by_cases hk:r.extract 0 n2∈XW
       ·have htok:Yg r=some (4,n2):=by rw [kw,if_pos hk]
        refine eL ?_
        refine (Xw r 4 n2 a b6 b3 (by omega) S G6 G3).mono ?_
        rintro r' σ' ⟨h1,h2⟩
        rw [h1,h2]
        refine eH ?_
        refine .mk (.refl _) (hsub _) ⟨?_,rfl⟩
        exact eT
       ·have htok:Yg r=some (1,n2):=by rw [kw,if_neg hk]
        refine eK ?_
        refine (Xw r 1 n2 a b6 b3 (by omega) S G6 G3).mono ?_
        rintro r' σ' ⟨h1,h2⟩
        rw [h1,h2]
        refine eH ?_
        refine .mk (.refl _) (hsub _) ⟨?_,rfl⟩
        exact eT
     ·have kw:=kw (fun h=>hO h.1) ()
      refine ef ?_
      refine ⟨by omega,by omega,?_⟩
      refine ef ?_
      refine YH.head ?_
      refine eM ?_
      refine ⟨by omega,by omega,?_⟩
      refine (Z5 XW (r.extract 0 n2) .full 1 (.inl rfl)).use ?_
      by_cases hk:r.extract 0 n2∈XW
      ·have htok:Yg r=some (4,n2):=by rw [kw,if_pos hk]
       refine eL ?_
       refine (Xw r 4 n2 a b6 b3 (by omega) S G6 G3).mono ?_
       rintro r' σ' ⟨h1,h2⟩
       rw [h1,h2]
       refine eH ?_
       refine .mk (.refl _) (hsub _) ⟨?_,rfl⟩
       exact eT
      ·have htok:Yg r=some (1,n2):=by rw [kw,if_neg hk]
       refine eK ?_
       refine (Xw r 1 n2 a b6 b3 (by omega) S G6 G3).mono ?_
       rintro r' σ' ⟨h1,h2⟩
       rw [h1,h2]
       refine eH ?_
       refine .mk (.refl _) (hsub _) ⟨?_,rfl⟩
       exact eT
   ·have hN:Ti r=n1:=by unfold Ti;rw [← hn1,if_neg (fun h=>hB h.2.1)]
    try simp only [go_sem,seval,Zr,Int.toNat_natCast,G6,hw1,e1,decide_true]
    refine ⟨by omega,by omega,?_⟩
    try simp only [go_sem,seval,Zr,Int.toNat_natCast,G6,hw1,hB,decide_false]
    obtain ⟨n2,rfl⟩:∃ n2,n2=n1:=⟨_,rfl⟩
    have kw:¬ (r.extract 0 n2=wO∧1<r.size∧bAt r 1=45)→∀ (_:Unit),Yg r=if r.extract 0 n2∈XW then some (4,n2) else some (1,n2):=fun h _=>by unfold Yg;rw [if_pos hs,hN,if_neg h]
    by_cases hO:r.extract 0 n2=wO
    ·by_cases hZ:1<r.size
     ·by_cases h45:bAt r 1=45
      ·have htok:Yg r=some (3,2):=by unfold Yg;rw [if_pos hs,hN,if_pos ⟨hO,hZ,h45⟩]
       refine ef ?_
       refine ⟨by omega,by omega,?_⟩
       refine ef ?_
       refine ⟨fun _=>⟨by omega,?_⟩,fun h=>by omega⟩
       refine eQ ?_
       refine (Xw r 3 2 a b6 b3 (by omega) S G6 G3).mono ?_
       rintro r' σ' ⟨h1,h2⟩
       rw [h1,h2]
       refine eH ?_
       refine .mk (.refl _) (hsub _) ⟨?_,rfl⟩
       exact eT
      ·have kw:=kw (fun h=>h45 h.2.2) ()
       refine ef ?_
       refine ⟨by omega,by omega,?_⟩
       refine ef ?_
       refine ⟨fun _=>⟨by omega,?_⟩,fun h=>by omega⟩
       refine eQ ?_
       refine YH.head ?_
       refine eM ?_
       refine ⟨by omega,by omega,?_⟩
       refine (Z5 XW (r.extract 0 n2) .full 1 (.inl rfl)).use ?_
       by_cases hk:r.extract 0 n2∈XW
       ·have htok:Yg r=some (4,n2):=by rw [kw,if_pos hk]
        refine eL ?_
        refine (Xw r 4 n2 a b6 b3 (by omega) S G6 G3).mono ?_
        rintro r' σ' ⟨h1,h2⟩
        rw [h1,h2]
        refine eH ?_
        refine .mk (.refl _) (hsub _) ⟨?_,rfl⟩
        exact eT
       ·have htok:Yg r=some (1,n2):=by rw [kw,if_neg hk]
        refine eK ?_
        refine (Xw r 1 n2 a b6 b3 (by omega) S G6 G3).mono ?_
        rintro r' σ' ⟨h1,h2⟩
        rw [h1,h2]
        refine eH ?_
        refine .mk (.refl _) (hsub _) ⟨?_,rfl⟩
        exact eT
     ·have kw:=kw (fun h=>hZ h.2.1) ()
      refine ef ?_
      refine ⟨by omega,by omega,?_⟩
      refine ef ?_
      refine ⟨fun h=>by omega,fun _=>?_⟩
      refine fD ?_
      refine YH.head ?_
      refine eM ?_
      refine ⟨by omega,by omega,?_⟩
      refine (Z5 XW (r.extract 0 n2) .full 1 (.inl rfl)).use ?_
      by_cases hk:r.extract 0 n2∈XW
      ·have htok:Yg r=some (4,n2):=by rw [kw,if_pos hk]
       refine eL ?_
       refine (Xw r 4 n2 a b6 b3 (by omega) S G6 G3).mono ?_
       rintro r' σ' ⟨h1,h2⟩
       rw [h1,h2]
       refine eH ?_
       refine .mk (.refl _) (hsub _) ⟨?_,rfl⟩
       exact eT
      ·have htok:Yg r=some (1,n2):=by rw [kw,if_neg hk]
       refine eK ?_
       refine (Xw r 1 n2 a b6 b3 (by omega) S G6 G3).mono ?_
       rintro r' σ' ⟨h1,h2⟩
       rw [h1,h2]
       refine eH ?_
       refine .mk (.refl _) (hsub _) ⟨?_,rfl⟩
       exact eT
    ·have kw:=kw (fun h=>hO h.1) ()
     refine ef ?_
     refine ⟨by omega,by omega,?_⟩
     refine ef ?_
     refine YH.head ?_
     refine eM ?_
     refine ⟨by omega,by omega,?_⟩
     refine (Z5 XW (r.extract 0 n2) .full 1 (.inl rfl)).use ?_
     by_cases hk:r.extract 0 n2∈XW
     ·have htok:Yg r=some (4,n2):=by rw [kw,if_pos hk]
      refine eL ?_
      refine (Xw r 4 n2 a b6 b3 (by omega) S G6 G3).mono ?_
      rintro r' σ' ⟨h1,h2⟩
      rw [h1,h2]
      refine eH ?_
      refine .mk (.refl _) (hsub _) ⟨?_,rfl⟩
      exact eT
     ·have htok:Yg r=some (1,n2):=by rw [kw,if_neg hk]
      refine eK ?_
      refine (Xw r 1 n2 a b6 b3 (by omega) S G6 G3).mono ?_
      rintro r' σ' ⟨h1,h2⟩
      rw [h1,h2]
      refine eH ?_
      refine .mk (.refl _) (hsub _) ⟨?_,rfl⟩
      exact eT
  ·have hN:Ti r=n1:=by unfold Ti;rw [← hn1,if_neg (fun h=>hA h.1)]
   have hA':¬ (((n1+1:Nat):Int)<r.size):=by omega
   try simp only [go_sem,seval,Zr,Int.toNat_natCast,G6,hw1,hA']
   obtain ⟨n2,rfl⟩:∃ n2,n2=n1:=⟨_,rfl⟩
   have kw:¬ (r.extract 0 n2=wO∧1<r.size∧bAt r 1=45)→∀ (_:Unit),Yg r=if r.extract 0 n2∈XW then some (4,n2) else some (1,n2):=fun h _=>by unfold Yg;rw [if_pos hs,hN,if_neg h]
   by_cases hO:r.extract 0 n2=wO
   ·by_cases hZ:1<r.size
    ·by_cases h45:bAt r 1=45
     ·have htok:Yg r=some (3,2):=by unfold Yg;rw [if_pos hs,hN,if_pos ⟨hO,hZ,h45⟩]
      refine ef ?_
      refine ⟨by omega,by omega,?_⟩
      refine ef ?_
      refine ⟨fun _=>⟨by omega,?_⟩,fun h=>by omega⟩
      refine eQ ?_
      refine (Xw r 3 2 a b6 b3 (by omega) S G6 G3).mono ?_
      rintro r' σ' ⟨h1,h2⟩
      rw [h1,h2]
      refine eH ?_
      refine .mk (.refl _) (hsub _) ⟨?_,rfl⟩
      exact eT
     ·have kw:=kw (fun h=>h45 h.2.2) ()
      refine ef ?_
      refine ⟨by omega,by omega,?_⟩
      refine ef ?_
      refine ⟨fun _=>⟨by omega,?_⟩,fun h=>by omega⟩
      refine eQ ?_
      refine YH.head ?_
      refine eM ?_
      refine ⟨by omega,by omega,?_⟩
      refine (Z5 XW (r.extract 0 n2) .full 1 (.inl rfl)).use ?_
      by_cases hk:r.extract 0 n2∈XW
      ·have htok:Yg r=some (4,n2):=by rw [kw,if_pos hk]
       refine eL ?_
       refine (Xw r 4 n2 a b6 b3 (by omega) S G6 G3).mono ?_
       rintro r' σ' ⟨h1,h2⟩
       rw [h1,h2]
       refine eH ?_
       refine .mk (.refl _) (hsub _) ⟨?_,rfl⟩
       exact eT
      ·have htok:Yg r=some (1,n2):=by rw [kw,if_neg hk]
       refine eK ?_
       refine (Xw r 1 n2 a b6 b3 (by omega) S G6 G3).mono ?_
       rintro r' σ' ⟨h1,h2⟩
       rw [h1,h2]
       refine eH ?_
       refine .mk (.refl _) (hsub _) ⟨?_,rfl⟩
       exact eT
    ·have kw:=kw (fun h=>hZ h.2.1) ()
     refine ef ?_
     refine ⟨by omega,by omega,?_⟩
     refine ef ?_
     refine ⟨fun h=>by omega,fun _=>?_⟩
     refine fD ?_
     refine YH.head ?_
     refine eM ?_
     refine ⟨by omega,by omega,?_⟩
     refine (Z5 XW (r.extract 0 n2) .full 1 (.inl rfl)).use ?_
     by_cases hk:r.extract 0 n2∈XW
     ·have htok:Yg r=some (4,n2):=by rw [kw,if_pos hk]
      refine eL ?_
      refine (Xw r 4 n2 a b6 b3 (by omega) S G6 G3).mono ?_
      rintro r' σ' ⟨h1,h2⟩
      rw [h1,h2]
      refine eH ?_
      refine .mk (.refl _) (hsub _) ⟨?_,rfl⟩
      exact eT
     ·have htok:Yg r=some (1,n2):=by rw [kw,if_neg hk]
      refine eK ?_
      refine (Xw r 1 n2 a b6 b3 (by omega) S G6 G3).mono ?_
      rintro r' σ' ⟨h1,h2⟩
      rw [h1,h2]
      refine eH ?_
      refine .mk (.refl _) (hsub _) ⟨?_,rfl⟩
      exact eT
   ·have kw:=kw (fun h=>hO h.1) ()
    refine ef ?_
    refine ⟨by omega,by omega,?_⟩
    refine ef ?_
    refine YH.head ?_
    refine eM ?_
    refine ⟨by omega,by omega,?_⟩
    refine (Z5 XW (r.extract 0 n2) .full 1 (.inl rfl)).use ?_
    by_cases hk:r.extract 0 n2∈XW
    ·have htok:Yg r=some (4,n2):=by rw [kw,if_pos hk]
     refine eL ?_
     refine (Xw r 4 n2 a b6 b3 (by omega) S G6 G3).mono ?_
     rintro r' σ' ⟨h1,h2⟩
     rw [h1,h2]
     refine eH ?_
     refine .mk (.refl _) (hsub _) ⟨?_,rfl⟩
     exact eT
    ·have htok:Yg r=some (1,n2):=by rw [kw,if_neg hk]
     refine eK ?_
     refine (Xw r 1 n2 a b6 b3 (by omega) S G6 G3).mono ?_
     rintro r' σ' ⟨h1,h2⟩
     rw [h1,h2]
     refine eH ?_
     refine .mk (.refl _) (hsub _) ⟨?_,rfl⟩
     exact eT
 ·try simp only [go_sem,seval,Zr,hs]
  refine (Hv _).use ?_
  by_cases hc:Qw (bAt r 0)
  ·try simp only [go_sem,seval,Zr,hc]
   refine (GN r 0 b6 b7 (by omega) (by omega) S G6 G7).mono ?_
   rintro r' σ' ⟨h1,h2⟩
   rw [h1,h2]
   clear h1 h2 r' σ'
   have htok:Yg r=some (2,Vm r (r.size+1) 0):=by unfold Yg;rw [if_neg hs,if_pos hc]
   have hb1:=VQ r (r.size+1) 0 (by omega)
   try simp only [go_sem,seval,Zr]
   refine (Xw r 2 _ a b6 b3 hb1.2 S G6 G3).mono ?_
   rintro r' σ' ⟨h1,h2⟩
   rw [h1,h2]
   refine eH ?_
   refine .mk (.refl _) (hsub _) ⟨?_,rfl⟩
   exact eT
  ·try simp only [go_sem,seval,Zr,hc,G6]
   refine (Ve _ _).use ?_
   by_cases p1:Xx r { data:=#[45,62] }
   ·have htok:Yg r=some (3,2):=by unfold Yg;rw [if_neg hs,if_neg hc,if_pos (.inl p1)]
    try simp only [go_sem,seval,Zr,p1,G6,decide_true]
    refine (Xw r 3 2 a b6 b3 p1.1 S G6 G3).mono ?_
    rintro r' σ' ⟨h1,h2⟩
    rw [h1,h2]
    refine eH ?_
    refine .mk (.refl _) (hsub _) ⟨?_,rfl⟩
    exact eT
   ·try simp only [go_sem,seval,Zr,p1,G6,decide_false]
    refine (Ve _ _).use ?_
    by_cases p2:Xx r { data:=#[61,62] }
    ·have htok:Yg r=some (3,2):=by unfold Yg;rw [if_neg hs,if_neg hc,if_pos (.inr (.inl p2))]
     try simp only [go_sem,seval,Zr,p2,G6,decide_true]
     refine (Xw r 3 2 a b6 b3 p2.1 S G6 G3).mono ?_
     rintro r' σ' ⟨h1,h2⟩
     rw [h1,h2]
     refine eH ?_
     refine .mk (.refl _) (hsub _) ⟨?_,rfl⟩
     exact eT
    ·try simp only [go_sem,seval,Zr,p2,G6,decide_false]
     refine (Ve _ _).use ?_
     by_cases p3:Xx r { data:=#[60,61] }
     ·have htok:Yg r=some (3,2):=by unfold Yg;rw [if_neg hs,if_neg hc,if_pos (.inr (.inr p3))]
      try simp only [go_sem,seval,Zr,p3,G6,decide_true]
      refine (Xw r 3 2 a b6 b3 p3.1 S G6 G3).mono ?_
      rintro r' σ' ⟨h1,h2⟩
      rw [h1,h2]
      refine eH ?_
      refine .mk (.refl _) (hsub _) ⟨?_,rfl⟩
      exact eT
     ·have hno:¬ (Xx r { data:=#[45,62] }∨Xx r { data:=#[61,62] }∨Xx r { data:=#[60,61] }):=fun h=>h.elim p1 (fun h=>h.elim p2 p3)
      try simp only [go_sem,seval,Zr,p3,G6,decide_false]
      refine (Ve _ _).use ?_
      by_cases p4:Xx r { data:=#[45,111] }
      ·have hz:2≤r.size:=p4.1
       by_cases h2:r.size=2
       ·have htok:Yg r=some (3,2):=by unfold Yg;rw [if_neg hs,if_neg hc,if_neg hno,if_pos p4,if_pos (.inl h2)]
        have e2:(((r.size:Nat):Int)=2)=True:=eq_true (by omega)
        try simp only [go_sem,seval,Zr,p4,G6,decide_true,e2]
        refine (Xw r 3 2 a b6 b3 hz S G6 G3).mono ?_
        rintro r' σ' ⟨h1,h2⟩
        rw [h1,h2]
        refine eH ?_
        refine .mk (.refl _) (hsub _) ⟨?_,rfl⟩
        exact eT
       ·have h2':¬ ((r.size:Int)=2):=by omega
        have hbb:=SH r 2
        try simp only [go_sem,seval,Zr,p4,G6,decide_true,h2',decide_false]
        refine ⟨by omega,?_⟩
        have e2:(2:Int).toNat=2:=rfl
        try simp only [go_sem,seval,Zr,G7,e2,Mq _ hbb.1 hbb.2]
        refine ⟨hbb.1,hbb.2,?_⟩
        cases hl:Qr (bAt r 2) with
        | false =>
          have htok:Yg r=some (3,2):=by unfold Yg;rw [if_neg hs,if_neg hc,if_neg hno,if_pos p4,if_pos (.inr hl)]
          try simp only [go_sem,seval,Zr]
          refine (Xw r 3 2 a b6 b3 hz S G6 G3).mono ?_
          rintro r' σ' ⟨h1,h2⟩
          rw [h1,h2]
          refine eH ?_
          refine .mk (.refl _) (hsub _) ⟨?_,rfl⟩
          exact eT
        | true =>
          have htok:Yg r=none:=by unfold Yg;rw [if_neg hs,if_neg hc,if_neg hno,if_pos p4,if_neg (fun h=>h.elim h2 (fun h=>by rw [hl] at h;cases h))]
          refine eH ?_
          refine .mk (.refl _) (hsub _) ⟨?_,rfl⟩
          exact eT
      ·try simp only [go_sem,seval,Zr,p4,G6,decide_false]
       refine (S5 _ _).use ?_
       try simp only [go_sem,seval,Zr]
       refine ⟨fun hi=>?_,fun hi=>?_⟩
       ·have htok:Yg r=some (3,1):=by unfold Yg;rw [if_neg hs,if_neg hc,if_neg hno,if_neg p4,if_pos hi]
        try simp only [go_sem,seval,Zr]
        refine (Xw r 3 1 a b6 b3 (by omega) S G6 G3).mono ?_
        rintro r' σ' ⟨h1,h2⟩
        rw [h1,h2]
        refine eH ?_
        refine .mk (.refl _) (hsub _) ⟨?_,rfl⟩
        exact eT
       ·have htok:Yg r=none:=by unfold Yg;rw [if_neg hs,if_neg hc,if_neg hno,if_neg p4,if_neg hi]
        refine eH ?_
        refine .mk (.refl _) (hsub _) ⟨?_,rfl⟩
        exact eT
end Go.Vx
