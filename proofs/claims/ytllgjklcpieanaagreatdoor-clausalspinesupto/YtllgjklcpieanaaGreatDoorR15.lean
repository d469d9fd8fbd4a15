/- A part of the proof of clausalSpinesProved. -/
import Derived.Test.YtllgjklcpieanaaGreatDoorR13
import Derived.Test.YtllgjklcpieanaaGreatDoorR12
set_option linter.unusedVariables false
set_option linter.unusedSimpArgs false
set_option maxRecDepth 100000
section
namespace Go.Vx
open Go.Proofs
def JK(b:Nat->Bool)(n:Nat)(St:Nat->Store):ZE->Store->Prop:=fun r σ' =>
 (∃ i:Nat,i<n/\b i=true/\(∀ j,j<i->b j=false)/\r=.ret (vi i)/\σ'=St (i+1))\/((∀ j,j<n->b j=false)/\r=.ret (vi (-1))/\σ'=St n)
def PA(b:Nat->Bool)(n:Nat)(St:Nat->Store):ZE->Store->Prop:=fun r σ' =>
 (∃ i:Nat,i<n/\b i=true/\(∀ j,j<i->b j=false)/\r=.ret (vb true)/\σ'=St (i+1))\/((∀ j,j<n->b j=false)/\r=.ret (vb false)/\σ'=St n)
theorem Nr(f:nG)(rt:Rt)(s:Nat)(es:List (List AV))(St:Nat->Store)(b:Nat->Bool)(hs:s=2\/es=[])(hlen:∀ (i:Nat) (e:List AV),es[i]?=some e->e.length=2)
 (hf:∀ (i:Nat) (e:List AV),es[i]?=some e->(∀ j,j<i->b j=false)->ZH nC (.val f) [.agg e] (St i) (fun r σ'=>r=.ret (vb (b i))/\σ'=St (i+1))) :
 Zh nC 163 [.list rt s es,.val f] (St 0) (JK b es.length St):=by
 refine Zh.ok xy (fun hok=>?_)
 have hl:=(hok _ ir).len
 clear hok
 refine Zb [] [] Tryz.func163 rfl xy ?_;rw[Tryz.ntmps163,Tryz.results163]
 refine uw ?_
 refine uU ?_
 rintro i ⟨hi,hb⟩
 refine uw ?_
 refine⟨fun h1=>⟨?_,by omega,h1,fun e he=>?_⟩,fun h1=>?_⟩
 ·exact pj
 ·rw[iF] at he
  have he2:=hlen i e he
  have hta:List.take 2 e=e:=iW xh
  try simp only[go_sem,seval,he2,hta]
  exact oa
 ·exact ph
theorem Uu(f:nG)(rt:Rt)(s:Nat)(es:List (List AV))(St:Nat->Store)(b:Nat->Bool)(hs:s=2\/es=[])(hlen:∀ (i:Nat) (e:List AV),es[i]?=some e->e.length=2)
 (hf:∀ (i:Nat) (e:List AV),es[i]?=some e->(∀ j,j<i->b j=false)->ZH nC (.val f) [.agg e] (St i) (fun r σ'=>r=.ret (vb (b i))/\σ'=St (i+1))) :
 Zh nC 105 [.list rt s es,.val f] (St 0) (PA b es.length St):=by
 refine Zb [] [] Tryz.func105 rfl xy ?_;rw[Tryz.ntmps105,Tryz.results105]
 refine uw ?_
 refine(Nr f rt s es St b hs hlen hf).mono ?_
 exact oD
theorem Ns(f:nG)(rt:Rt)(s:Nat)(es:List (List AV))(St:Nat->Store)(b:Nat->Bool)(hs:s=4\/es=[])(hlen:∀ (i:Nat) (e:List AV),es[i]?=some e->e.length=4)
 (hf:∀ (i:Nat) (e:List AV),es[i]?=some e->(∀ j,j<i->b j=false)->ZH nC (.val f) [.agg e] (St i) (fun r σ'=>r=.ret (vb (b i))/\σ'=St (i+1))) :
 Zh nC 215 [.list rt s es,.val f] (St 0) (JK b es.length St):=by
 refine Zh.ok xy (fun hok=>?_)
 have hl:=(hok _ ir).len
 clear hok
 refine Zb [] [] Tryz.func215 rfl xy ?_;rw[Tryz.ntmps215,Tryz.results215]
 exact tJ
theorem RZ(f:nG)(rt:Rt)(s:Nat)(es:List (List AV))(St:Nat->Store)(b:Nat->Bool)(hs:s=4\/es=[])(hlen:∀ (i:Nat) (e:List AV),es[i]?=some e->e.length=4)
 (hf:∀ (i:Nat) (e:List AV),es[i]?=some e->(∀ j,j<i->b j=false)->ZH nC (.val f) [.agg e] (St i) (fun r σ'=>r=.ret (vb (b i))/\σ'=St (i+1))) :
 Zh nC 146 [.list rt s es,.val f] (St 0) (PA b es.length St):=by
 refine Zb [] [] Tryz.func146 rfl xy ?_;rw[Tryz.ntmps146,Tryz.results146]
 refine uw ?_
 refine(Ns f rt s es St b hs hlen hf).mono ?_
 exact oD
theorem Nw(f:nG)(rt:Rt)(s:Nat)(es:List (List AV))(St:Nat->Store)(b:Nat->Bool)(hs:s=6\/es=[])(hlen:∀ (i:Nat) (e:List AV),es[i]?=some e->e.length=6)
 (hf:∀ (i:Nat) (e:List AV),es[i]?=some e->(∀ j,j<i->b j=false)->ZH nC (.val f) [.agg e] (St i) (fun r σ'=>r=.ret (vb (b i))/\σ'=St (i+1))) :
 Zh nC 217 [.list rt s es,.val f] (St 0) (JK b es.length St):=by
 refine Zh.ok xy (fun hok=>?_)
 have hl:=(hok _ ir).len
 clear hok
 refine Zb [] [] Tryz.func217 rfl xy ?_;rw[Tryz.ntmps217,Tryz.results217]
 refine uw ?_
 refine uU ?_
 rintro i ⟨hi,hb⟩
 refine uw ?_
 refine⟨fun h1=>⟨?_,by omega,h1,fun e he=>?_⟩,fun h1=>?_⟩
 ·exact pj
 ·rw[iF] at he
  have he2:=hlen i e he
  have hta:List.take 6 e=e:=iW xh
  try simp only[go_sem,seval,he2,hta]
  exact oa
 ·exact ph
theorem R2(f:nG)(rt:Rt)(s:Nat)(es:List (List AV))(St:Nat->Store)(b:Nat->Bool)(hs:s=6\/es=[])(hlen:∀ (i:Nat) (e:List AV),es[i]?=some e->e.length=6)
 (hf:∀ (i:Nat) (e:List AV),es[i]?=some e->(∀ j,j<i->b j=false)->ZH nC (.val f) [.agg e] (St i) (fun r σ'=>r=.ret (vb (b i))/\σ'=St (i+1))) :
 Zh nC 149 [.list rt s es,.val f] (St 0) (PA b es.length St):=by
 refine Zb [] [] Tryz.func149 rfl xy ?_;rw[Tryz.ntmps149,Tryz.results149]
 refine uw ?_
 refine(Nw f rt s es St b hs hlen hf).mono ?_
 exact oD
theorem Sr(f:nG)(rt:Rt)(s:Nat)(es:List (List AV))(St:Nat->Store)(b:Nat->Bool)(hs:s=4\/es=[])(hlen:∀ (i:Nat) (e:List AV),es[i]?=some e->e.length=4)
 (hf:∀ (i:Nat) (e:List AV),es[i]?=some e->(∀ j,j<i->b j=false)->ZH nC (.val f) [.agg e] (St i) (fun r σ'=>r=.ret (vb (b i))/\σ'=St (i+1))) :
 Zh nC 157 [.list rt s es,.val f] (St 0) (JK b es.length St):=by
 refine Zh.ok xy (fun hok=>?_)
 have hl:=(hok _ ir).len
 clear hok
 refine Zb [] [] Tryz.func157 rfl xy ?_;rw[Tryz.ntmps157,Tryz.results157]
 exact tJ
theorem R1(f:nG)(rt:Rt)(s:Nat)(es:List (List AV))(St:Nat->Store)(b:Nat->Bool)(hs:s=4\/es=[])(hlen:∀ (i:Nat) (e:List AV),es[i]?=some e->e.length=4)
 (hf:∀ (i:Nat) (e:List AV),es[i]?=some e->(∀ j,j<i->b j=false)->ZH nC (.val f) [.agg e] (St i) (fun r σ'=>r=.ret (vb (b i))/\σ'=St (i+1))) :
 Zh nC 232 [.list rt s es,.val f] (St 0) (PA b es.length St):=by
 refine Zb [] [] Tryz.func232 rfl xy ?_;rw[Tryz.ntmps232,Tryz.results232]
 refine uw ?_
 refine(Sr f rt s es St b hs hlen hf).mono ?_
 exact oD
theorem Nv(f:nG)(rt:Rt)(s:Nat)(es:List (List AV))(St:Nat->Store)(b:Nat->Bool)(hs:s=8\/es=[])(hlen:∀ (i:Nat) (e:List AV),es[i]?=some e->e.length=8)
 (hf:∀ (i:Nat) (e:List AV),es[i]?=some e->(∀ j,j<i->b j=false)->ZH nC (.val f) [.agg e] (St i) (fun r σ'=>r=.ret (vb (b i))/\σ'=St (i+1))) :
 Zh nC 268 [.list rt s es,.val f] (St 0) (JK b es.length St):=by
 refine Zh.ok xy (fun hok=>?_)
 have hl:=(hok _ ir).len
 clear hok
 refine Zb [] [] Tryz.func268 rfl xy ?_;rw[Tryz.ntmps268,Tryz.results268]
 refine uw ?_
 refine uU ?_
 rintro i ⟨hi,hb⟩
 refine uw ?_
 refine⟨fun h1=>⟨?_,by omega,h1,fun e he=>?_⟩,fun h1=>?_⟩
 ·exact pj
 ·rw[iF] at he
  have he2:=hlen i e he
  have hta:List.take 8 e=e:=iW xh
  try simp only[go_sem,seval,he2,hta]
  exact oa
 ·exact ph
theorem R0(f:nG)(rt:Rt)(s:Nat)(es:List (List AV))(St:Nat->Store)(b:Nat->Bool)(hs:s=8\/es=[])(hlen:∀ (i:Nat) (e:List AV),es[i]?=some e->e.length=8)
 (hf:∀ (i:Nat) (e:List AV),es[i]?=some e->(∀ j,j<i->b j=false)->ZH nC (.val f) [.agg e] (St i) (fun r σ'=>r=.ret (vb (b i))/\σ'=St (i+1))) :
 Zh nC 234 [.list rt s es,.val f] (St 0) (PA b es.length St):=by
 refine Zb [] [] Tryz.func234 rfl xy ?_;rw[Tryz.ntmps234,Tryz.results234]
 refine uw ?_
 refine(Nv f rt s es St b hs hlen hf).mono ?_
 exact oD
theorem PK(f:nG)(rt:Rt)(s:Nat)(es:List AV)(St:Nat->Store)(b:Nat->Bool)(hs:s=1\/es=[])
 (hf:∀ (i:Nat) (e:AV),es[i]?=some e->(∀ j,j<i->b j=false)->ZH nC (.val f) [e] (St i) (fun r σ'=>r=.ret (vb (b i))/\σ'=St (i+1))) :
 Zh nC 228 [.list rt s (es.map fun x=>[x]),.val f] (St 0) (JK b es.length St):=by
 refine Zh.ok xy (fun hok=>?_)
 have hl:=(hok _ ir).len
 rw[io] at hl
 clear hok
 refine Zb [] [] Tryz.func228 rfl xy ?_;rw[Tryz.ntmps228,Tryz.results228]
 exact tM
theorem Wn(f:nG)(rt:Rt)(s:Nat)(es:List AV)(St:Nat->Store)(b:Nat->Bool)(hs:s=1\/es=[])
 (hf:∀ (i:Nat) (e:AV),es[i]?=some e->(∀ j,j<i->b j=false)->ZH nC (.val f) [e] (St i) (fun r σ'=>r=.ret (vb (b i))/\σ'=St (i+1))) :
 Zh nC 173 [.list rt s (es.map fun x=>[x]),.val f] (St 0) (PA b es.length St):=by
 refine Zb [] [] Tryz.func173 rfl xy ?_;rw[Tryz.ntmps173,Tryz.results173]
 refine uw ?_
 refine(PK f rt s es St b hs hf).mono ?_
 exact oD
theorem QR(f:nG)(rt:Rt)(s:Nat)(es:List AV)(St:Nat->Store)(b:Nat->Bool)(hs:s=1\/es=[])
 (hf:∀ (i:Nat) (e:AV),es[i]?=some e->(∀ j,j<i->b j=false)->ZH nC (.val f) [e] (St i) (fun r σ'=>r=.ret (vb (b i))/\σ'=St (i+1))) :
 Zh nC 179 [.list rt s (es.map fun x=>[x]),.val f] (St 0) (JK b es.length St):=by
 refine Zh.ok xy (fun hok=>?_)
 have hl:=(hok _ ir).len
 rw[io] at hl
 clear hok
 refine Zb [] [] Tryz.func179 rfl xy ?_;rw[Tryz.ntmps179,Tryz.results179]
 exact tM
theorem Sz(f:nG)(rt:Rt)(s:Nat)(es:List AV)(St:Nat->Store)(b:Nat->Bool)(hs:s=1\/es=[])
 (hf:∀ (i:Nat) (e:AV),es[i]?=some e->(∀ j,j<i->b j=false)->ZH nC (.val f) [e] (St i) (fun r σ'=>r=.ret (vb (b i))/\σ'=St (i+1))) :
 Zh nC 112 [.list rt s (es.map fun x=>[x]),.val f] (St 0) (PA b es.length St):=by
 refine Zb [] [] Tryz.func112 rfl xy ?_;rw[Tryz.ntmps112,Tryz.results112]
 refine uw ?_
 refine(QR f rt s es St b hs hf).mono ?_
 exact oD
open Go.Proofs
def cB(l:List Str)(x:Str)(n:Int):Prop:=(∃ i:Nat,l[i]?=some x/\n=i)\/(x ∉ l/\n=-1)
theorem HS(l:List Str)(x:Str)(rt:Rt)(s:Nat)(hs:s=1\/l=[])(σ:Store):Zh nC 224 [.list rt s (ZX l),vs x] σ (fun r σ'=>∃ n,cB l x n/\r=.ret (vi n)/\σ'=σ):=by
 refine Zh.ok xy (fun hok=>?_)
 have hl:=(hok _ ir).len
 rw[io] at hl
 clear hok
 refine Zb [] [] Tryz.func224 rfl xy ?_;rw[Tryz.ntmps224,Tryz.results224]
 refine uw ?_
 refine uP ?_
 rintro i ⟨hi,hb⟩
 try simp only[go_sem,seval,io]
 refine⟨fun h1=>⟨?_,by omega,h1,fun e he=>?_⟩,fun h1=>?_⟩
 ·exact pj
 ·rw[iF,jp,kQ] at he
  obtain⟨e,he,rfl⟩:=he
  refine uw ?_
  refine⟨fun h2=>?_,fun h2=>?_⟩
  ·subst h2
   exact .mk (.refl _) (.refl _) ⟨_,.inl ⟨i,he,rfl⟩,rfl,rfl⟩
  ·refine vz fun hw64=>?_
   rw[hw64]
   refine .mk (i+1) ⟨by omega,fun j hj=>?_⟩ xh ⟨.refl _,trivial⟩ ?_ (.refl _)
   ·by_cases e2:j=i
    ·rw[e2,he];intro hh;injection hh with hh;exact h2 hh.symm
    ·exact hb j xh
   ·exact pq
 ·refine .mk (.refl _) (.refl _) ⟨_,.inr ⟨fun hm=>?_,rfl⟩,rfl,rfl⟩
  obtain⟨j,hj,hx⟩:=iN hm
  exact sV
instance decMemStr (x:Str) (l:List Str):Decidable (x∈l):=decidable_of_iff (l.any (fun y=>decide (x=y))=true) xf
theorem Yd(l:List Str)(x:Str)(rt:Rt)(s:Nat)(hs:s=1\/l=[]):Pur nC 168 [.list rt s (ZX l),vs x] (vb (decide (x∈l))):=by
 intro σ
 refine Zb [] [] Tryz.func168 rfl xy ?_;rw[Tryz.ntmps168,Tryz.results168]
 refine uw ?_
 refine(HS l x rt s hs σ).mono ?_
 rintro r _ ⟨n,hn,rfl,rfl⟩
 refine uw ?_
 refine Zs ?_
 rcases hn with⟨i,hi,rfl⟩|⟨hn,rfl⟩
 ·have:x∈l:=iG hi
  simp[this]
 ·simp[hn]
open Go.Proofs
abbrev zeros256:List AV:=List.replicate 256 (vb false)
def Yq(s:Str)(n:Nat):List AV:=(List.range 256).map fun j:Nat=>vb (decide (∃ i,i<n/\i<s.size/\bAt s i=(j:Int)))
theorem Rr(s:Str)(i:Nat):0<=bAt s i/\bAt s i<256:=by
 unfold bAt
 have:=(s.data.toList.getD i 0).toNat_lt
 omega
theorem XZ(s:Str)(n:Nat):(Yq s n).length=256:=by simp[Yq]
theorem NM(s:Str):Yq s 0=zeros256:=by
 apply List.ext_getElem
 ·simp[Yq]
 ·intro i h1 h2;simp[Yq]
theorem NN(s:Str)(n:Nat)(hn:n<s.size):Yn (Yq s n) (bAt s n).toNat [vb true]=Yq s (n+1):=by
 have hb:=Rr s n
 apply ml
 intro i
 unfold Yn
 by_cases h1:i<(bAt s n).toNat
 ·rw[jU (by simp[Yq];omega),jF h1]
  simp only[Yq,jp]
  rw[lB xh]
  exact qh
 ·rw[jT (by simp[Yq];omega)]
  simp only[ip,XZ,ks (show(bAt s n).toNat<=256 by omega)]
  by_cases h2:i=(bAt s n).toNat
  ·subst h2
   simp only[lH,kE,kU,Yq,jp]
   rw[lB xh]
   simp only[jX,jq]
   have:(∃ k,k<n+1/\k<s.size/\bAt s k=(((bAt s n).toNat:Nat):Int)):=⟨n,by omega,hn,by omega⟩
   simp only[this,iT]
  ·obtain⟨q,hq⟩:=Nat.exists_eq_succ_of_ne_zero (show i-(bAt s n).toNat≠0 by omega)
   rw[hq]
   simp only[kE,kF,mg,ij,im,ku,jG]
   rw[show(bAt s n).toNat+1+q=i by omega]
   simp only[Yq,jp]
   by_cases h3:i<256
   ·rw[lB h3]
    exact qh
   ·rw[jE (l:=List.range 256) xz];rfl
theorem Gh(s:Str)(hsz:s.size<=1000):Pur nC 317 [vs s] (.agg (Yq s s.size)):=by
 intro σ
 refine Zb [] [] Tryz.func317 rfl xy ?_;rw[Tryz.ntmps317,Tryz.results317]
 refine uw ?_
 intro b hb
 refine Zp (mu:=[]) (dr:=[]) [3,6,7,8,9,10,11,12,13] (fun i:Nat=>[(6,vi i)]) (fun i=>(b,.cells (Yq s i))::σ) (fun i=>i<=s.size) (fun i=>s.size-i) 0 xy xh ⟨.refl _,trivial⟩ (by rw[NM];exact .refl _) ?_
 intro i hi
 try simp only[go_sem,seval,XZ,iF]
 have hbi:=Rr s i
 refine⟨fun h=>⟨by omega,by omega,hbi.1,hbi.2,by omega,?_⟩,fun h=>?_⟩
 ·refine uR ?_
  refine .mk (i+1) xh xh ⟨.refl _,trivial⟩ yS ?_
  have:=NN s i xh
  simp only[Yn,ij,im,kE,kF,jG] at this
  simp only[jC,this]
  exact .refl _
 ·have hi2:i=s.size:=by omega
  have h1:List.take 256 (Yq s i)=Yq s i:=iW (by rw[XZ];omega)
  have h2:List.drop 256 (Yq s i)=[]:=lX (by rw[XZ];omega)
  have h3:(Yq s i).all AV.one=true:=by simp[Yq,AV.one,Value.oneCell']
  simp only[h1,XZ,h2,kh,h3,kO,iE,Id,jt]
  rw[hi2]
  exact pJ
def Qw(s:Str)(at_:Nat):Int:=Lib.indexByte (s.extract at_ s.size).data.toList (10:Int).toNat.toUInt8
def XK(s:Str):Nat->Nat->Nat
 | 0,a=>a
 | f + 1,a=>if a<s.size then
     (if bAt s a=32\/bAt s a=9\/bAt s a=10 then XK s f (a+1)
      else if bAt s a=37 then(if 0<=Qw s a then XK s f (a+(Qw s a).toNat) else XK s f s.size)
      else a)
   else a
theorem Ny(l:List UInt8)(c:UInt8):Lib.indexByte l c<l.length\/l=[]:=by
 induction l with
 | nil=>exact .inr rfl
 | cons b r ih =>
   left
   simp only[Lib.indexByte,ij]
   split
   ·omega
   ·split
    ·omega
    ·rcases ih with h|h
     ·omega
     ·subst h;simp[Lib.indexByte] at *
theorem QS(l:List UInt8)(c:UInt8)(h:Lib.indexByte l c=0):l.head?=some c:=by
 cases l with
 | nil=>simp[Lib.indexByte] at h
 | cons b r =>
   simp only[Lib.indexByte] at h
   split at h
   ·rename_i e;simp at e;simp[e]
   ·split at h
    ·omega
    ·have:=Lib.indexByte_ge r c
     rename_i e1 e2
     have:Lib.indexByte r c=-1:=by omega
     rw[this] at e2;simp at e2
theorem cm:(10:Int).toNat.toUInt8=10:=by decide
theorem Ie(s:Str)(a:Nat)(h:a<s.size)(hb:bAt s a=37)(h0:0<=Qw s a):0<(Qw s a).toNat/\a+(Qw s a).toNat<s.size:=by
 unfold Qw at h0 ⊢
 rw[cm] at h0 ⊢
 have hl:(s.extract a s.size).data.toList=s.data.toList.drop a:=by
  rw[ByteArray.data_extract]
  simp only[Array.toList_extract,List.extract_eq_take_drop]
  rw[iW]
  rw[iP,lO]
  exact kO _
 have hsz:s.data.toList.length=s.size:=by rw[lO];rfl
 rw[hl] at h0 ⊢
 have h1:=Ny (s.data.toList.drop a) 10
 have h2:=QS (s.data.toList.drop a) 10
 rw[iP,hsz] at h1
 have hne:s.data.toList.drop a≠[]:=by
  intro e
  have:=je List.length e
  rw[iP,hsz] at this
  simp at this;omega
 have h1:=h1.resolve_right hne
 refine⟨?_,by omega⟩
 rcases iZ (Lib.indexByte (s.data.toList.drop a) 10).toNat with hz|hz
 ·have hz:Lib.indexByte (s.data.toList.drop a) 10=0:=by omega
  have:=h2 hz
  rw[lN] at this
  unfold bAt at hb
  rw[jQ,this] at hb
  simp at hb
 ·exact hz
theorem O5(s:Str)(a:Nat)(hsz:s.size<=20000):Pur nC 309 [vs s,vi a] (vi (XK s (s.size+1) a)):=by
 intro σ
 refine Zb [] [] Tryz.func309 rfl xy ?_;rw[Tryz.ntmps309,Tryz.results309]
 refine uw ?_
 refine Zp (mu:=[]) (dr:=[]) [1,4,5,6,7,8,9,10,11,12,13,14,15,16,17,18,19,20,21,22,23,24,25,26,27,28,29,30,31,32] (fun x:Nat=>[(1,vi x)]) (fun _=>σ) (fun x=>∃ f,s.size-x<f/\XK s f x=XK s (s.size+1) a) (fun x=>s.size-x) a xy ⟨_,by omega,rfl⟩ ⟨.refl _,trivial⟩ (.refl _) ?_
 rintro x ⟨f,hf,hx⟩
 by_cases hlt:x<s.size
 ·obtain⟨f,rfl⟩:∃ g,f=g+1:=⟨f-1,by omega⟩
  rw[XK,gZ hlt] at hx
  by_cases h1:bAt s x=32\/bAt s x=9\/bAt s x=10
  ·rw[gZ h1] at hx
   rcases h1 with h1|h1|h1
   ·exact oV
   ·exact oV
   ·exact oV
  ·rw[ig h1] at hx
   have h3:¬ bAt s x=32:=fun h=>h1 (.inl h)
   have h4:¬ bAt s x=9:=fun h=>h1 (.inr (.inl h))
   have h5:¬ bAt s x=10:=fun h=>h1 (.inr (.inr h))
   by_cases h2:bAt s x=37
   ·rw[gZ h2] at hx
    try simp only[go_sem,seval,iF,h2]
    refine⟨fun _=>⟨by omega,by omega,by omega,by omega,by omega,?_⟩,fun h=>by omega⟩
    refine(RK _ _).use ?_
    have hn:Lib.indexByte (s.extract x s.size).data.toList (10:Int).toNat.toUInt8=Qw s x:=rfl
    rw[hn]
    have hbd:=Ie s x hlt h2
    refine uw ?_
    refine⟨fun h=>?_,fun h=>?_⟩
    ·have hbd:=hbd h
     rw[gZ h] at hx
     rw[show IntKind.i64.wrap ((x:Int)+Qw s x)=((x+(Qw s x).toNat:Nat):Int) from by rw[Zk xh xh];omega]
     exact .mk (x+(Qw s x).toNat) ⟨f,by omega,hx⟩ xh ⟨.refl _,trivial⟩ yS (.refl _)
    ·rw[ig h] at hx
     exact .mk s.size ⟨f,by omega,hx⟩ xh ⟨.refl _,trivial⟩ yS (.refl _)
   ·rw[ig h2] at hx
    try simp only[go_sem,seval,iF,h2,h3,h4,h5]
    refine⟨fun _=>⟨by omega,by omega,?_⟩,fun h=>by omega⟩
    rw[<- hx]
    exact Zl
 ·have hx2:XK s f x=x:=by
   cases f with
   | zero=>rfl
   | succ f=>rw[XK,ig hlt]
  refine uw ?_
  refine⟨fun h=>by omega,fun _=>?_⟩
  rw[<- hx,hx2]
  exact Zl
end Go.Vx
end
