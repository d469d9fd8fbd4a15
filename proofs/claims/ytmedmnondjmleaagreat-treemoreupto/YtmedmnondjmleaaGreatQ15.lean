/- Part Q15 of the proof of treeMoreProved: the walk of the program on abstract values, and the plain law. -/
import Derived.Test.YtmedmnondjmleaaGreatQ14
set_option linter.unusedVariables false
set_option linter.unusedSimpArgs false
section
set_option maxRecDepth 100000
namespace Go.Vx
open Go.Proofs
def Lq (b:Nat→Bool)(n:Nat)(St:Nat→Store):ZQ→Store→Prop:=fun r σ' =>
 (∃ i:Nat,i<n∧b i=true∧(∀ j,j<i→b j=false)∧r=.ret (vi i)∧σ'=St (i+1))∨((∀ j,j<n→b j=false)∧r=.ret (vi (-1))∧σ'=St n)
def Pk (b:Nat→Bool)(n:Nat)(St:Nat→Store):ZQ→Store→Prop:=fun r σ' =>
 (∃ i:Nat,i<n∧b i=true∧(∀ j,j<i→b j=false)∧r=.ret (vb true)∧σ'=St (i+1))∨((∀ j,j<n→b j=false)∧r=.ret (vb false)∧σ'=St n)
theorem PX:(ZB Tryz.prog 126=some 150)∧(Zh Tryz.prog 150=some 2)∧(Ze Tryz.prog 150=some true)∧(Tryz.prog.underlying 126=some (.slice 150)):=by
 refine ⟨?_,?_,?_,?_⟩<;>first | trivial | kernel_rfl
theorem Nf (f:Value)(rt:Rt)(s:Nat)(es:List (List AV))(St:Nat→Store)(b:Nat→Bool)(hs:s=2∨es=[])(hlen:∀ (i:Nat) (e:List AV),es[i]?=some e→e.length=2)
 (hf:∀ (i:Nat) (e:List AV),es[i]?=some e→(∀ j,j<i→b j=false)→Z0 Tryz.prog (.val f) [.agg e] (St i) (fun r σ'=>r=.ret (vb (b i))∧σ'=St (i+1))) :
 Zi Tryz.prog 207 [.list rt s es,.val f] (St 0) (Lq b es.length St):=by
 refine Zi.ok (by kernel_rfl) (fun hok=>?_)
 have hl:=(hok _ List.mem_cons_self).len
 clear hok
 refine Zb [] [] Tryz.func207 rfl (by kernel_rfl) ?_;rw [Tryz.ntmps207,Tryz.results207]
 try simp only [go_sem,seval,PX]
 refine Zw (mu:=[]) (dr:=[]) [4,5,8,9,10,11,12,13,14,15,16,17,18] (fun i:Nat=>[(8,vi i)]) (fun i=>St i) (fun i=>i≤es.length∧∀ j,j<i→b j=false) (fun i=>es.length-i) 0 (by kernel_rfl) ⟨by omega,fun j hj=>by omega⟩ ⟨.refl _,trivial⟩ (.refl _) ?_
 rintro i ⟨hi,hb⟩
 try simp only [go_sem,seval,PX]
 refine ⟨fun h1=>⟨?_,by omega,h1,fun e he=>?_⟩,fun h1=>?_⟩
 ·rcases hs with hs | hs
  ·rw [hs]
  ·rw [hs] at h1;simp at h1;omega
 ·rw [Int.toNat_natCast] at he
  have he2:=hlen i e he
  have hta:List.take 2 e=e:=List.take_of_length_le (by omega)
  try simp only [go_sem,seval,PX,he2,hta]
  refine (hf i e he hb).mono ?_
  rintro r _ ⟨rfl,rfl⟩
  try simp only [go_sem,seval,PX]
  cases hbi:b i with
  | true =>
    try simp only [go_sem,seval,PX]
    exact .mk (.refl _) (.refl _) (.inl ⟨i,by omega,hbi,hb,rfl,rfl⟩)
  | false =>
    try simp only [go_sem,seval,PX]
    have hw64:IntKind.i64.wrap ((i:Int)+1)=((i+1:Nat):Int):=Zp (by omega) (by omega)
    rw [hw64]
    refine .mk (i+1) ⟨by omega,fun j hj=>?_⟩ (by omega) ⟨.refl _,trivial⟩ ?_ (.refl _)
    ·by_cases e:j=i
     ·rw [e];exact hbi
     ·exact hb j (by omega)
    ·repeat refine Zg.put rfl ?_
     exact hJ
 ·have hi2:i=es.length:=by omega
  subst hi2
  exact eX
theorem Gg:(True):=by
 first | trivial | kernel_rfl
theorem Rx (f:Value)(rt:Rt)(s:Nat)(es:List (List AV))(St:Nat→Store)(b:Nat→Bool)(hs:s=2∨es=[])(hlen:∀ (i:Nat) (e:List AV),es[i]?=some e→e.length=2)
 (hf:∀ (i:Nat) (e:List AV),es[i]?=some e→(∀ j,j<i→b j=false)→Z0 Tryz.prog (.val f) [.agg e] (St i) (fun r σ'=>r=.ret (vb (b i))∧σ'=St (i+1))) :
 Zi Tryz.prog 162 [.list rt s es,.val f] (St 0) (Pk b es.length St):=by
 refine Zb [] [] Tryz.func162 rfl (by kernel_rfl) ?_;rw [Tryz.ntmps162,Tryz.results162]
 try simp only [go_sem,seval,Gg]
 refine (Nf f rt s es St b hs hlen hf).mono ?_
 rintro r σ' (⟨i,hi,hb,hn,rfl,rfl⟩ | ⟨hn,rfl,rfl⟩)
 ·try simp only [go_sem,seval,Gg]
  exact .mk (.refl _) (.refl _) (.inl ⟨i,hi,hb,hn,by simp,rfl⟩)
 ·try simp only [go_sem,seval,Gg]
  exact eW
theorem J6:(ZB Tryz.prog 33=some 52)∧(Zh Tryz.prog 52=some 4)∧(Ze Tryz.prog 52=some true)∧(Tryz.prog.underlying 33=some (.slice 52)):=by
 refine ⟨?_,?_,?_,?_⟩<;>first | trivial | kernel_rfl
theorem Ng (f:Value)(rt:Rt)(s:Nat)(es:List (List AV))(St:Nat→Store)(b:Nat→Bool)(hs:s=4∨es=[])(hlen:∀ (i:Nat) (e:List AV),es[i]?=some e→e.length=4)
 (hf:∀ (i:Nat) (e:List AV),es[i]?=some e→(∀ j,j<i→b j=false)→Z0 Tryz.prog (.val f) [.agg e] (St i) (fun r σ'=>r=.ret (vb (b i))∧σ'=St (i+1))) :
 Zi Tryz.prog 98 [.list rt s es,.val f] (St 0) (Lq b es.length St):=by
 refine Zi.ok (by kernel_rfl) (fun hok=>?_)
 have hl:=(hok _ List.mem_cons_self).len
 clear hok
 refine Zb [] [] Tryz.func98 rfl (by kernel_rfl) ?_;rw [Tryz.ntmps98,Tryz.results98]
 try simp only [go_sem,seval,J6]
 refine Zw (mu:=[]) (dr:=[]) [4,5,8,9,10,11,12,13,14,15,16,17,18] (fun i:Nat=>[(8,vi i)]) (fun i=>St i) (fun i=>i≤es.length∧∀ j,j<i→b j=false) (fun i=>es.length-i) 0 (by kernel_rfl) ⟨by omega,fun j hj=>by omega⟩ ⟨.refl _,trivial⟩ (.refl _) ?_
 rintro i ⟨hi,hb⟩
 try simp only [go_sem,seval,J6]
 refine ⟨fun h1=>⟨?_,by omega,h1,fun e he=>?_⟩,fun h1=>?_⟩
 ·rcases hs with hs | hs
  ·rw [hs]
  ·rw [hs] at h1;simp at h1;omega
 ·rw [Int.toNat_natCast] at he
  have he2:=hlen i e he
  have hta:List.take 4 e=e:=List.take_of_length_le (by omega)
  try simp only [go_sem,seval,J6,he2,hta]
  refine (hf i e he hb).mono ?_
  rintro r _ ⟨rfl,rfl⟩
  try simp only [go_sem,seval,J6]
  cases hbi:b i with
  | true =>
    try simp only [go_sem,seval,J6]
    exact .mk (.refl _) (.refl _) (.inl ⟨i,by omega,hbi,hb,rfl,rfl⟩)
  | false =>
    try simp only [go_sem,seval,J6]
    have hw64:IntKind.i64.wrap ((i:Int)+1)=((i+1:Nat):Int):=Zp (by omega) (by omega)
    rw [hw64]
    refine .mk (i+1) ⟨by omega,fun j hj=>?_⟩ (by omega) ⟨.refl _,trivial⟩ ?_ (.refl _)
    ·by_cases e:j=i
     ·rw [e];exact hbi
     ·exact hb j (by omega)
    ·repeat refine Zg.put rfl ?_
     exact hJ
 ·have hi2:i=es.length:=by omega
  subst hi2
  exact eX
theorem BJ:(True):=by
 first | trivial | kernel_rfl
theorem Ry (f:Value)(rt:Rt)(s:Nat)(es:List (List AV))(St:Nat→Store)(b:Nat→Bool)(hs:s=4∨es=[])(hlen:∀ (i:Nat) (e:List AV),es[i]?=some e→e.length=4)
 (hf:∀ (i:Nat) (e:List AV),es[i]?=some e→(∀ j,j<i→b j=false)→Z0 Tryz.prog (.val f) [.agg e] (St i) (fun r σ'=>r=.ret (vb (b i))∧σ'=St (i+1))) :
 Zi Tryz.prog 58 [.list rt s es,.val f] (St 0) (Pk b es.length St):=by
 refine Zb [] [] Tryz.func58 rfl (by kernel_rfl) ?_;rw [Tryz.ntmps58,Tryz.results58]
 try simp only [go_sem,seval,BJ]
 refine (Ng f rt s es St b hs hlen hf).mono ?_
 rintro r σ' (⟨i,hi,hb,hn,rfl,rfl⟩ | ⟨hn,rfl,rfl⟩)
 ·try simp only [go_sem,seval,BJ]
  exact .mk (.refl _) (.refl _) (.inl ⟨i,hi,hb,hn,by simp,rfl⟩)
 ·try simp only [go_sem,seval,BJ]
  exact eW
theorem PY:(ZB Tryz.prog 27=some 30)∧(Zh Tryz.prog 30=some 6)∧(Ze Tryz.prog 30=some true)∧(Tryz.prog.underlying 27=some (.slice 30)):=by
 refine ⟨?_,?_,?_,?_⟩<;>first | trivial | kernel_rfl
theorem QE (f:Value)(rt:Rt)(s:Nat)(es:List (List AV))(St:Nat→Store)(b:Nat→Bool)(hs:s=6∨es=[])(hlen:∀ (i:Nat) (e:List AV),es[i]?=some e→e.length=6)
 (hf:∀ (i:Nat) (e:List AV),es[i]?=some e→(∀ j,j<i→b j=false)→Z0 Tryz.prog (.val f) [.agg e] (St i) (fun r σ'=>r=.ret (vb (b i))∧σ'=St (i+1))) :
 Zi Tryz.prog 186 [.list rt s es,.val f] (St 0) (Lq b es.length St):=by
 refine Zi.ok (by kernel_rfl) (fun hok=>?_)
 have hl:=(hok _ List.mem_cons_self).len
 clear hok
 refine Zb [] [] Tryz.func186 rfl (by kernel_rfl) ?_;rw [Tryz.ntmps186,Tryz.results186]
 try simp only [go_sem,seval,PY]
 refine Zw (mu:=[]) (dr:=[]) [4,5,8,9,10,11,12,13,14,15,16,17,18] (fun i:Nat=>[(8,vi i)]) (fun i=>St i) (fun i=>i≤es.length∧∀ j,j<i→b j=false) (fun i=>es.length-i) 0 (by kernel_rfl) ⟨by omega,fun j hj=>by omega⟩ ⟨.refl _,trivial⟩ (.refl _) ?_
 rintro i ⟨hi,hb⟩
 try simp only [go_sem,seval,PY]
 refine ⟨fun h1=>⟨?_,by omega,h1,fun e he=>?_⟩,fun h1=>?_⟩
 ·rcases hs with hs | hs
  ·rw [hs]
  ·rw [hs] at h1;simp at h1;omega
 ·rw [Int.toNat_natCast] at he
  have he2:=hlen i e he
  have hta:List.take 6 e=e:=List.take_of_length_le (by omega)
  try simp only [go_sem,seval,PY,he2,hta]
  refine (hf i e he hb).mono ?_
  rintro r _ ⟨rfl,rfl⟩
  try simp only [go_sem,seval,PY]
  cases hbi:b i with
  | true =>
    try simp only [go_sem,seval,PY]
    exact .mk (.refl _) (.refl _) (.inl ⟨i,by omega,hbi,hb,rfl,rfl⟩)
  | false =>
    try simp only [go_sem,seval,PY]
    have hw64:IntKind.i64.wrap ((i:Int)+1)=((i+1:Nat):Int):=Zp (by omega) (by omega)
    rw [hw64]
    refine .mk (i+1) ⟨by omega,fun j hj=>?_⟩ (by omega) ⟨.refl _,trivial⟩ ?_ (.refl _)
    ·by_cases e:j=i
     ·rw [e];exact hbi
     ·exact hb j (by omega)
    ·repeat refine Zg.put rfl ?_
     exact hJ
 ·have hi2:i=es.length:=by omega
  subst hi2
  exact eX
theorem Gj:(True):=by
 first | trivial | kernel_rfl
theorem T7 (f:Value)(rt:Rt)(s:Nat)(es:List (List AV))(St:Nat→Store)(b:Nat→Bool)(hs:s=6∨es=[])(hlen:∀ (i:Nat) (e:List AV),es[i]?=some e→e.length=6)
 (hf:∀ (i:Nat) (e:List AV),es[i]?=some e→(∀ j,j<i→b j=false)→Z0 Tryz.prog (.val f) [.agg e] (St i) (fun r σ'=>r=.ret (vb (b i))∧σ'=St (i+1))) :
 Zi Tryz.prog 144 [.list rt s es,.val f] (St 0) (Pk b es.length St):=by
 refine Zb [] [] Tryz.func144 rfl (by kernel_rfl) ?_;rw [Tryz.ntmps144,Tryz.results144]
 try simp only [go_sem,seval,Gj]
 refine (QE f rt s es St b hs hlen hf).mono ?_
 rintro r σ' (⟨i,hi,hb,hn,rfl,rfl⟩ | ⟨hn,rfl,rfl⟩)
 ·try simp only [go_sem,seval,Gj]
  exact .mk (.refl _) (.refl _) (.inl ⟨i,hi,hb,hn,by simp,rfl⟩)
 ·try simp only [go_sem,seval,Gj]
  exact eW
theorem J9:(ZB Tryz.prog 28=some 114)∧(Zh Tryz.prog 114=some 7)∧(Ze Tryz.prog 114=some true)∧(Tryz.prog.underlying 28=some (.slice 114)):=by
 refine ⟨?_,?_,?_,?_⟩<;>first | trivial | kernel_rfl
theorem UH (f:Value)(rt:Rt)(s:Nat)(es:List (List AV))(St:Nat→Store)(b:Nat→Bool)(hs:s=7∨es=[])(hlen:∀ (i:Nat) (e:List AV),es[i]?=some e→e.length=7)
 (hf:∀ (i:Nat) (e:List AV),es[i]?=some e→(∀ j,j<i→b j=false)→Z0 Tryz.prog (.val f) [.agg e] (St i) (fun r σ'=>r=.ret (vb (b i))∧σ'=St (i+1))) :
 Zi Tryz.prog 63 [.list rt s es,.val f] (St 0) (Lq b es.length St):=by
 refine Zi.ok (by kernel_rfl) (fun hok=>?_)
 have hl:=(hok _ List.mem_cons_self).len
 clear hok
 refine Zb [] [] Tryz.func63 rfl (by kernel_rfl) ?_;rw [Tryz.ntmps63,Tryz.results63]
 try simp only [go_sem,seval,J9]
 refine Zw (mu:=[]) (dr:=[]) [4,5,8,9,10,11,12,13,14,15,16,17,18] (fun i:Nat=>[(8,vi i)]) (fun i=>St i) (fun i=>i≤es.length∧∀ j,j<i→b j=false) (fun i=>es.length-i) 0 (by kernel_rfl) ⟨by omega,fun j hj=>by omega⟩ ⟨.refl _,trivial⟩ (.refl _) ?_
 rintro i ⟨hi,hb⟩
 try simp only [go_sem,seval,J9]
 refine ⟨fun h1=>⟨?_,by omega,h1,fun e he=>?_⟩,fun h1=>?_⟩
 ·rcases hs with hs | hs
  ·rw [hs]
  ·rw [hs] at h1;simp at h1;omega
 ·rw [Int.toNat_natCast] at he
  have he2:=hlen i e he
  have hta:List.take 7 e=e:=List.take_of_length_le (by omega)
  try simp only [go_sem,seval,J9,he2,hta]
  refine (hf i e he hb).mono ?_
  rintro r _ ⟨rfl,rfl⟩
  try simp only [go_sem,seval,J9]
  cases hbi:b i with
  | true =>
    try simp only [go_sem,seval,J9]
    exact .mk (.refl _) (.refl _) (.inl ⟨i,by omega,hbi,hb,rfl,rfl⟩)
  | false =>
    try simp only [go_sem,seval,J9]
    have hw64:IntKind.i64.wrap ((i:Int)+1)=((i+1:Nat):Int):=Zp (by omega) (by omega)
    rw [hw64]
    refine .mk (i+1) ⟨by omega,fun j hj=>?_⟩ (by omega) ⟨.refl _,trivial⟩ ?_ (.refl _)
    ·by_cases e:j=i
     ·rw [e];exact hbi
     ·exact hb j (by omega)
    ·repeat refine Zg.put rfl ?_
     exact hJ
 ·have hi2:i=es.length:=by omega
  subst hi2
  exact eX
theorem Gq:(True):=by
 first | trivial | kernel_rfl
theorem T9 (f:Value)(rt:Rt)(s:Nat)(es:List (List AV))(St:Nat→Store)(b:Nat→Bool)(hs:s=7∨es=[])(hlen:∀ (i:Nat) (e:List AV),es[i]?=some e→e.length=7)
 (hf:∀ (i:Nat) (e:List AV),es[i]?=some e→(∀ j,j<i→b j=false)→Z0 Tryz.prog (.val f) [.agg e] (St i) (fun r σ'=>r=.ret (vb (b i))∧σ'=St (i+1))) :
 Zi Tryz.prog 114 [.list rt s es,.val f] (St 0) (Pk b es.length St):=by
 refine Zb [] [] Tryz.func114 rfl (by kernel_rfl) ?_;rw [Tryz.ntmps114,Tryz.results114]
 try simp only [go_sem,seval,Gq]
 refine (UH f rt s es St b hs hlen hf).mono ?_
 rintro r σ' (⟨i,hi,hb,hn,rfl,rfl⟩ | ⟨hn,rfl,rfl⟩)
 ·try simp only [go_sem,seval,Gq]
  exact .mk (.refl _) (.refl _) (.inl ⟨i,hi,hb,hn,by simp,rfl⟩)
 ·try simp only [go_sem,seval,Gq]
  exact eW
theorem J8:(ZB Tryz.prog 99=some 110)∧(Zh Tryz.prog 110=some 3)∧(Ze Tryz.prog 110=some true)∧(Tryz.prog.underlying 99=some (.slice 110)):=by
 refine ⟨?_,?_,?_,?_⟩<;>first | trivial | kernel_rfl
theorem Pv (f:Value)(rt:Rt)(s:Nat)(es:List (List AV))(St:Nat→Store)(b:Nat→Bool)(hs:s=3∨es=[])(hlen:∀ (i:Nat) (e:List AV),es[i]?=some e→e.length=3)
 (hf:∀ (i:Nat) (e:List AV),es[i]?=some e→(∀ j,j<i→b j=false)→Z0 Tryz.prog (.val f) [.agg e] (St i) (fun r σ'=>r=.ret (vb (b i))∧σ'=St (i+1))) :
 Zi Tryz.prog 73 [.list rt s es,.val f] (St 0) (Lq b es.length St):=by
 refine Zi.ok (by kernel_rfl) (fun hok=>?_)
 have hl:=(hok _ List.mem_cons_self).len
 clear hok
 refine Zb [] [] Tryz.func73 rfl (by kernel_rfl) ?_;rw [Tryz.ntmps73,Tryz.results73]
 try simp only [go_sem,seval,J8]
 refine Zw (mu:=[]) (dr:=[]) [4,5,8,9,10,11,12,13,14,15,16,17,18] (fun i:Nat=>[(8,vi i)]) (fun i=>St i) (fun i=>i≤es.length∧∀ j,j<i→b j=false) (fun i=>es.length-i) 0 (by kernel_rfl) ⟨by omega,fun j hj=>by omega⟩ ⟨.refl _,trivial⟩ (.refl _) ?_
 rintro i ⟨hi,hb⟩
 try simp only [go_sem,seval,J8]
 refine ⟨fun h1=>⟨?_,by omega,h1,fun e he=>?_⟩,fun h1=>?_⟩
 ·rcases hs with hs | hs
  ·rw [hs]
  ·rw [hs] at h1;simp at h1;omega
 ·rw [Int.toNat_natCast] at he
  have he2:=hlen i e he
  have hta:List.take 3 e=e:=List.take_of_length_le (by omega)
  try simp only [go_sem,seval,J8,he2,hta]
  refine (hf i e he hb).mono ?_
  rintro r _ ⟨rfl,rfl⟩
  try simp only [go_sem,seval,J8]
  cases hbi:b i with
  | true =>
    try simp only [go_sem,seval,J8]
    exact .mk (.refl _) (.refl _) (.inl ⟨i,by omega,hbi,hb,rfl,rfl⟩)
  | false =>
    try simp only [go_sem,seval,J8]
    have hw64:IntKind.i64.wrap ((i:Int)+1)=((i+1:Nat):Int):=Zp (by omega) (by omega)
    rw [hw64]
    refine .mk (i+1) ⟨by omega,fun j hj=>?_⟩ (by omega) ⟨.refl _,trivial⟩ ?_ (.refl _)
    ·by_cases e:j=i
     ·rw [e];exact hbi
     ·exact hb j (by omega)
    ·repeat refine Zg.put rfl ?_
     exact hJ
 ·have hi2:i=es.length:=by omega
  subst hi2
  exact eX
theorem Gs:(True):=by
 first | trivial | kernel_rfl
theorem SK (f:Value)(rt:Rt)(s:Nat)(es:List (List AV))(St:Nat→Store)(b:Nat→Bool)(hs:s=3∨es=[])(hlen:∀ (i:Nat) (e:List AV),es[i]?=some e→e.length=3)
 (hf:∀ (i:Nat) (e:List AV),es[i]?=some e→(∀ j,j<i→b j=false)→Z0 Tryz.prog (.val f) [.agg e] (St i) (fun r σ'=>r=.ret (vb (b i))∧σ'=St (i+1))) :
 Zi Tryz.prog 108 [.list rt s es,.val f] (St 0) (Pk b es.length St):=by
 refine Zb [] [] Tryz.func108 rfl (by kernel_rfl) ?_;rw [Tryz.ntmps108,Tryz.results108]
 try simp only [go_sem,seval,Gs]
 refine (Pv f rt s es St b hs hlen hf).mono ?_
 rintro r σ' (⟨i,hi,hb,hn,rfl,rfl⟩ | ⟨hn,rfl,rfl⟩)
 ·try simp only [go_sem,seval,Gs]
  exact .mk (.refl _) (.refl _) (.inl ⟨i,hi,hb,hn,by simp,rfl⟩)
 ·try simp only [go_sem,seval,Gs]
  exact eW
theorem P0:(ZB Tryz.prog 108=some 107)∧(Zh Tryz.prog 107=some 2)∧(Ze Tryz.prog 107=some true)∧(Tryz.prog.underlying 108=some (.slice 107)):=by
 refine ⟨?_,?_,?_,?_⟩<;>first | trivial | kernel_rfl
theorem Rv (f:Value)(rt:Rt)(s:Nat)(es:List (List AV))(St:Nat→Store)(b:Nat→Bool)(hs:s=2∨es=[])(hlen:∀ (i:Nat) (e:List AV),es[i]?=some e→e.length=2)
 (hf:∀ (i:Nat) (e:List AV),es[i]?=some e→(∀ j,j<i→b j=false)→Z0 Tryz.prog (.val f) [.agg e] (St i) (fun r σ'=>r=.ret (vb (b i))∧σ'=St (i+1))) :
 Zi Tryz.prog 146 [.list rt s es,.val f] (St 0) (Lq b es.length St):=by
 refine Zi.ok (by kernel_rfl) (fun hok=>?_)
 have hl:=(hok _ List.mem_cons_self).len
 clear hok
 refine Zb [] [] Tryz.func146 rfl (by kernel_rfl) ?_;rw [Tryz.ntmps146,Tryz.results146]
 try simp only [go_sem,seval,P0]
 refine Zw (mu:=[]) (dr:=[]) [4,5,8,9,10,11,12,13,14,15,16,17,18] (fun i:Nat=>[(8,vi i)]) (fun i=>St i) (fun i=>i≤es.length∧∀ j,j<i→b j=false) (fun i=>es.length-i) 0 (by kernel_rfl) ⟨by omega,fun j hj=>by omega⟩ ⟨.refl _,trivial⟩ (.refl _) ?_
 rintro i ⟨hi,hb⟩
 try simp only [go_sem,seval,P0]
 refine ⟨fun h1=>⟨?_,by omega,h1,fun e he=>?_⟩,fun h1=>?_⟩
 ·rcases hs with hs | hs
  ·rw [hs]
  ·rw [hs] at h1;simp at h1;omega
 ·rw [Int.toNat_natCast] at he
  have he2:=hlen i e he
  have hta:List.take 2 e=e:=List.take_of_length_le (by omega)
  try simp only [go_sem,seval,P0,he2,hta]
  refine (hf i e he hb).mono ?_
  rintro r _ ⟨rfl,rfl⟩
  try simp only [go_sem,seval,P0]
  cases hbi:b i with
  | true =>
    try simp only [go_sem,seval,P0]
    exact .mk (.refl _) (.refl _) (.inl ⟨i,by omega,hbi,hb,rfl,rfl⟩)
  | false =>
    try simp only [go_sem,seval,P0]
    have hw64:IntKind.i64.wrap ((i:Int)+1)=((i+1:Nat):Int):=Zp (by omega) (by omega)
    rw [hw64]
    refine .mk (i+1) ⟨by omega,fun j hj=>?_⟩ (by omega) ⟨.refl _,trivial⟩ ?_ (.refl _)
    ·by_cases e:j=i
     ·rw [e];exact hbi
     ·exact hb j (by omega)
    ·repeat refine Zg.put rfl ?_
     exact hJ
 ·have hi2:i=es.length:=by omega
  subst hi2
  exact eX
theorem Gr:(True):=by
 first | trivial | kernel_rfl
theorem Tw (f:Value)(rt:Rt)(s:Nat)(es:List (List AV))(St:Nat→Store)(b:Nat→Bool)(hs:s=2∨es=[])(hlen:∀ (i:Nat) (e:List AV),es[i]?=some e→e.length=2)
 (hf:∀ (i:Nat) (e:List AV),es[i]?=some e→(∀ j,j<i→b j=false)→Z0 Tryz.prog (.val f) [.agg e] (St i) (fun r σ'=>r=.ret (vb (b i))∧σ'=St (i+1))) :
 Zi Tryz.prog 110 [.list rt s es,.val f] (St 0) (Pk b es.length St):=by
 refine Zb [] [] Tryz.func110 rfl (by kernel_rfl) ?_;rw [Tryz.ntmps110,Tryz.results110]
 try simp only [go_sem,seval,Gr]
 refine (Rv f rt s es St b hs hlen hf).mono ?_
 rintro r σ' (⟨i,hi,hb,hn,rfl,rfl⟩ | ⟨hn,rfl,rfl⟩)
 ·try simp only [go_sem,seval,Gr]
  exact .mk (.refl _) (.refl _) (.inl ⟨i,hi,hb,hn,by simp,rfl⟩)
 ·try simp only [go_sem,seval,Gr]
  exact eW
theorem PR:(ZB Tryz.prog 23=some 3)∧(Zh Tryz.prog 3=some 1)∧(Ze Tryz.prog 3=some false)∧(Tryz.prog.underlying 23=some (.slice 3)):=by
 refine ⟨?_,?_,?_,?_⟩<;>first | trivial | kernel_rfl
theorem Pw (f:Value)(rt:Rt)(s:Nat)(es:List AV)(St:Nat→Store)(b:Nat→Bool)(hs:s=1∨es=[])
 (hf:∀ (i:Nat) (e:AV),es[i]?=some e→(∀ j,j<i→b j=false)→Z0 Tryz.prog (.val f) [e] (St i) (fun r σ'=>r=.ret (vb (b i))∧σ'=St (i+1))) :
 Zi Tryz.prog 256 [.list rt s (es.map fun x=>[x]),.val f] (St 0) (Lq b es.length St):=by
 refine Zi.ok (by kernel_rfl) (fun hok=>?_)
 have hl:=(hok _ List.mem_cons_self).len
 rw [List.length_map] at hl
 clear hok
 refine Zb [] [] Tryz.func256 rfl (by kernel_rfl) ?_;rw [Tryz.ntmps256,Tryz.results256]
 try simp only [go_sem,seval,PR]
 refine Zw (mu:=[]) (dr:=[]) [4,5,8,9,10,11,12,13,14,15,16,17,18] (fun i:Nat=>[(8,vi i)]) (fun i=>St i) (fun i=>i≤es.length∧∀ j,j<i→b j=false) (fun i=>es.length-i) 0 (by kernel_rfl) ⟨by omega,fun j hj=>by omega⟩ ⟨.refl _,trivial⟩ (.refl _) ?_
 rintro i ⟨hi,hb⟩
 try simp only [go_sem,seval,PR,List.length_map]
 refine ⟨fun h1=>⟨?_,by omega,h1,fun e he=>?_⟩,fun h1=>?_⟩
 ·rcases hs with hs | hs
  ·rw [hs]
  ·rw [hs] at h1;simp at h1;omega
 ·rw [Int.toNat_natCast] at he
  rw [List.getElem?_map,Option.map_eq_some_iff] at he
  obtain ⟨e,he,rfl⟩:=he
  try simp only [go_sem,seval,PR]
  refine (hf i e he hb).mono ?_
  rintro r _ ⟨rfl,rfl⟩
  try simp only [go_sem,seval,PR]
  cases hbi:b i with
  | true =>
    try simp only [go_sem,seval,PR]
    exact .mk (.refl _) (.refl _) (.inl ⟨i,by omega,hbi,hb,rfl,rfl⟩)
  | false =>
    try simp only [go_sem,seval,PR]
    have hw64:IntKind.i64.wrap ((i:Int)+1)=((i+1:Nat):Int):=Zp (by omega) (by omega)
    rw [hw64]
    refine .mk (i+1) ⟨by omega,fun j hj=>?_⟩ (by omega) ⟨.refl _,trivial⟩ ?_ (.refl _)
    ·by_cases e:j=i
     ·rw [e];exact hbi
     ·exact hb j (by omega)
    ·repeat refine Zg.put rfl ?_
     exact hJ
 ·have hi2:i=es.length:=by omega
  subst hi2
  exact eX
theorem Gc:(True):=by
 first | trivial | kernel_rfl
theorem VN (f:Value)(rt:Rt)(s:Nat)(es:List AV)(St:Nat→Store)(b:Nat→Bool)(hs:s=1∨es=[])
 (hf:∀ (i:Nat) (e:AV),es[i]?=some e→(∀ j,j<i→b j=false)→Z0 Tryz.prog (.val f) [e] (St i) (fun r σ'=>r=.ret (vb (b i))∧σ'=St (i+1))) :
 Zi Tryz.prog 217 [.list rt s (es.map fun x=>[x]),.val f] (St 0) (Pk b es.length St):=by
 refine Zb [] [] Tryz.func217 rfl (by kernel_rfl) ?_;rw [Tryz.ntmps217,Tryz.results217]
 try simp only [go_sem,seval,Gc]
 refine (Pw f rt s es St b hs hf).mono ?_
 rintro r σ' (⟨i,hi,hb,hn,rfl,rfl⟩ | ⟨hn,rfl,rfl⟩)
 ·try simp only [go_sem,seval,Gc]
  exact .mk (.refl _) (.refl _) (.inl ⟨i,hi,hb,hn,by simp,rfl⟩)
 ·try simp only [go_sem,seval,Gc]
  exact eW
theorem PT:(ZB Tryz.prog 184=some 23)∧(Zh Tryz.prog 23=some 1)∧(Ze Tryz.prog 23=some false)∧(Tryz.prog.underlying 184=some (.slice 23)):=by
 refine ⟨?_,?_,?_,?_⟩<;>first | trivial | kernel_rfl
theorem QF (f:Value)(rt:Rt)(s:Nat)(es:List AV)(St:Nat→Store)(b:Nat→Bool)(hs:s=1∨es=[])
 (hf:∀ (i:Nat) (e:AV),es[i]?=some e→(∀ j,j<i→b j=false)→Z0 Tryz.prog (.val f) [e] (St i) (fun r σ'=>r=.ret (vb (b i))∧σ'=St (i+1))) :
 Zi Tryz.prog 223 [.list rt s (es.map fun x=>[x]),.val f] (St 0) (Lq b es.length St):=by
 refine Zi.ok (by kernel_rfl) (fun hok=>?_)
 have hl:=(hok _ List.mem_cons_self).len
 rw [List.length_map] at hl
 clear hok
 refine Zb [] [] Tryz.func223 rfl (by kernel_rfl) ?_;rw [Tryz.ntmps223,Tryz.results223]
 try simp only [go_sem,seval,PT]
 refine Zw (mu:=[]) (dr:=[]) [4,5,8,9,10,11,12,13,14,15,16,17,18] (fun i:Nat=>[(8,vi i)]) (fun i=>St i) (fun i=>i≤es.length∧∀ j,j<i→b j=false) (fun i=>es.length-i) 0 (by kernel_rfl) ⟨by omega,fun j hj=>by omega⟩ ⟨.refl _,trivial⟩ (.refl _) ?_
 rintro i ⟨hi,hb⟩
 try simp only [go_sem,seval,PT,List.length_map]
 refine ⟨fun h1=>⟨?_,by omega,h1,fun e he=>?_⟩,fun h1=>?_⟩
 ·rcases hs with hs | hs
  ·rw [hs]
  ·rw [hs] at h1;simp at h1;omega
 ·rw [Int.toNat_natCast] at he
  rw [List.getElem?_map,Option.map_eq_some_iff] at he
  obtain ⟨e,he,rfl⟩:=he
  try simp only [go_sem,seval,PT]
  refine (hf i e he hb).mono ?_
  rintro r _ ⟨rfl,rfl⟩
  try simp only [go_sem,seval,PT]
  cases hbi:b i with
  | true =>
    try simp only [go_sem,seval,PT]
    exact .mk (.refl _) (.refl _) (.inl ⟨i,by omega,hbi,hb,rfl,rfl⟩)
  | false =>
    try simp only [go_sem,seval,PT]
    have hw64:IntKind.i64.wrap ((i:Int)+1)=((i+1:Nat):Int):=Zp (by omega) (by omega)
    rw [hw64]
    refine .mk (i+1) ⟨by omega,fun j hj=>?_⟩ (by omega) ⟨.refl _,trivial⟩ ?_ (.refl _)
    ·by_cases e:j=i
     ·rw [e];exact hbi
     ·exact hb j (by omega)
    ·repeat refine Zg.put rfl ?_
     exact hJ
 ·have hi2:i=es.length:=by omega
  subst hi2
  exact eX
theorem Gf:(True):=by
 first | trivial | kernel_rfl
theorem T8 (f:Value)(rt:Rt)(s:Nat)(es:List AV)(St:Nat→Store)(b:Nat→Bool)(hs:s=1∨es=[])
 (hf:∀ (i:Nat) (e:AV),es[i]?=some e→(∀ j,j<i→b j=false)→Z0 Tryz.prog (.val f) [e] (St i) (fun r σ'=>r=.ret (vb (b i))∧σ'=St (i+1))) :
 Zi Tryz.prog 169 [.list rt s (es.map fun x=>[x]),.val f] (St 0) (Pk b es.length St):=by
 refine Zb [] [] Tryz.func169 rfl (by kernel_rfl) ?_;rw [Tryz.ntmps169,Tryz.results169]
 try simp only [go_sem,seval,Gf]
 refine (QF f rt s es St b hs hf).mono ?_
 rintro r σ' (⟨i,hi,hb,hn,rfl,rfl⟩ | ⟨hn,rfl,rfl⟩)
 ·try simp only [go_sem,seval,Gf]
  exact .mk (.refl _) (.refl _) (.inl ⟨i,hi,hb,hn,by simp,rfl⟩)
 ·try simp only [go_sem,seval,Gf]
  exact eW
end Go.Vx
end
section
namespace Go.Vx
abbrev Tp (l:List Str):List (List AV):=l.map fun s=>[.val (.string s)]
abbrev Yw (l:List Int):List (List AV):=l.map fun n=>[vi n]
abbrev Ox (l:List Bool):List (List AV):=l.map fun b=>[vb b]
inductive Zf where
 | mk (kind:Int) (name:Str) (args:List Tm) (ty:Ty) (l:List Zf) (n group:Int) (env:List Int)
structure FClause where
 vars:List Ty
 locals:List Ty
 path:List Int
 name:Str
 args:List Tm
 goals:List Zf
 lasts:List Bool
structure FGroup where
 env:List Ty
 alts:List FClause
structure Flat where
 groups:List FGroup
 rules:List Int
mutual
def Zf.emb:Zf→List AV
 | .mk k s a (.mk ts tl) l n g e=>[vi k,vs s,.list .none 4 (cw a),vs ts,.list .none 2 (cC tl),.list .none 9 (cE l),vi n,vi g,.list .none 1 (Yw e)]
def cE:List Zf→List (List AV)
 | []=>[]
 | g::r=>Zf.emb g::cE r
end
theorem de:∀ l:List Zf,cE l=l.map Zf.emb
 | []=>rfl
 | g::r=>by simp [cE,de r]
theorem bW (l:List Zf):(cE l).length=l.length:=by rw [de];simp
theorem cN {l:List Zf}{i:Nat}{c:List AV}(h:(cE l)[i]?=some c):∃ t,l[i]?=some t∧c=t.emb:=by
 rw [de,List.getElem?_map,Option.map_eq_some_iff] at h;obtain ⟨t,h1,h2⟩:=h;exact ⟨t,h1,h2.symm⟩
theorem ci (k:Int)(s:Str)(a:List Tm)(ts:Str)(tl:List Ty)(l:List Zf)(n g:Int)(e:List Int):(Zf.mk k s a (.mk ts tl) l n g e).emb=[vi k,vs s,.list .none 4 (cw a),vs ts,.list .none 2 (cC tl),.list .none 9 (cE l),vi n,vi g,.list .none 1 (Yw e)]:=rfl
def Zf.kids:Zf→List Zf
 | .mk _ _ _ _ l _ _ _=>l
theorem dp {M:Zf→Prop}(h:∀ k s a t l n g e,(∀ x∈l,M x)→M (.mk k s a t l n g e)):∀ x,M x
 | .mk k s a t l n g e=>h k s a t l n g e (go l)
 where go:∀ l:List Zf,∀ t∈l,M t
 | [],_,ht=>absurd ht (by simp)
 | a::r,t,ht=>(List.mem_cons.1 ht).elim (fun e=>e ▸ dp h a) (fun hr=>go r t hr)
def FClause.emb (c:FClause):List AV:=[.list .none 2 (cC c.vars),.list .none 2 (cC c.locals),.list .none 1 (Yw c.path),vs c.name,.list .none 4 (cw c.args),.list .none 9 (cE c.goals),.list .none 1 (Ox c.lasts)]
def cD (l:List FClause):List (List AV):=l.map FClause.emb
def FGroup.emb (g:FGroup):List AV:=[.list .none 2 (cC g.env),.list .none 7 (cD g.alts)]
def cF (l:List FGroup):List (List AV):=l.map FGroup.emb
def Flat.emb (f:Flat):List AV:=[.list .none 2 (cF f.groups),.list .none 1 (Yw f.rules)]
theorem Yx {α β:Type}{f:α→β}{l:List α}{i:Nat}{c:β}(h:(l.map f)[i]?=some c):∃ t,l[i]?=some t∧c=f t:=by
 rw [List.getElem?_map,Option.map_eq_some_iff] at h;obtain ⟨t,h1,h2⟩:=h;exact ⟨t,h1,h2.symm⟩
theorem co (l:List FClause):(cD l).length=l.length:=by simp [cD]
theorem bZ (l:List FGroup):(cF l).length=l.length:=by simp [cF]
theorem cV {l:List FClause}{i:Nat}{c:List AV}(h:(cD l)[i]?=some c):∃ t,l[i]?=some t∧c=t.emb:=Yx h
theorem cP {l:List FGroup}{i:Nat}{c:List AV}(h:(cF l)[i]?=some c):∃ t,l[i]?=some t∧c=t.emb:=Yx h
structure Pick where
 rule:Int
 alt:Int
 deriving DecidableEq
def Pick.emb (p:Pick):List AV:=[vi p.rule,vi p.alt]
def cj (l:List Pick):List (List AV):=l.map Pick.emb
theorem cd (l:List Pick):(cj l).length=l.length:=by simp [cj]
theorem cJ {l:List Pick}{i:Nat}{c:List AV}(h:(cj l)[i]?=some c):∃ t,l[i]?=some t∧c=t.emb:=Yx h
structure Cls where
 any:Bool
 name:Str
 deriving DecidableEq
def Cls.emb (p:Cls):List AV:=[vb p.any,vs p.name]
def cp (l:List Cls):List (List AV):=l.map Cls.emb
theorem cO (l:List Cls):(cp l).length=l.length:=by simp [cp]
theorem di {l:List Cls}{i:Nat}{c:List AV}(h:(cp l)[i]?=some c):∃ t,l[i]?=some t∧c=t.emb:=Yx h
structure Row where
 pick:Pick
 classes:List Cls
def Row.emb (r:Row):List AV:=[vi r.pick.rule,vi r.pick.alt,.list .none 2 (cp r.classes)]
def cx (l:List Row):List (List AV):=l.map Row.emb
theorem cA (l:List Row):(cx l).length=l.length:=by simp [cx]
theorem db {l:List Row}{i:Nat}{c:List AV}(h:(cx l)[i]?=some c):∃ t,l[i]?=some t∧c=t.emb:=Yx h
mutual
inductive Tr where
 | mk (kind:Int) (picks:List Pick) (arg:Int) (any:List Tr) (cases:List Cs) (els:List Tr)
inductive Cs where
 | mk (name:Str) (t:Tr)
end
mutual
def Tr.emb:Tr→List AV
 | .mk k p a y c e=>[vi k,.list .none 2 (cj p),vi a,.list .none 6 (cm y),.list .none 7 (cH c),.list .none 6 (cm e)]
def cm:List Tr→List (List AV)
 | []=>[]
 | t::r=>Tr.emb t::cm r
def Cs.emb:Cs→List AV
 | .mk s t=>vs s::Tr.emb t
def cH:List Cs→List (List AV)
 | []=>[]
 | t::r=>Cs.emb t::cH r
end
theorem dj:∀ l:List Tr,cm l=l.map Tr.emb
 | []=>rfl
 | g::r=>by simp [cm,dj r]
theorem dt:∀ l:List Cs,cH l=l.map Cs.emb
 | []=>rfl
 | g::r=>by simp [cH,dt r]
theorem cK (l:List Tr):(cm l).length=l.length:=by rw [dj];simp
theorem cG (l:List Cs):(cH l).length=l.length:=by rw [dt];simp
theorem dD {l:List Tr}{i:Nat}{c:List AV}(h:(cm l)[i]?=some c):∃ t,l[i]?=some t∧c=t.emb:=by
 rw [dj] at h;exact Yx h
theorem cX {l:List Cs}{i:Nat}{c:List AV}(h:(cH l)[i]?=some c):∃ t,l[i]?=some t∧c=t.emb:=by
 rw [dt] at h;exact Yx h
theorem ck (k:Int)(p:List Pick)(a:Int)(y:List Tr)(c:List Cs)(e:List Tr):(Tr.mk k p a y c e).emb=[vi k,.list .none 2 (cj p),vi a,.list .none 6 (cm y),.list .none 7 (cH c),.list .none 6 (cm e)]:=rfl
theorem dl (s:Str)(k:Int)(p:List Pick)(a:Int)(y:List Tr)(c:List Cs)(e:List Tr):(Cs.mk s (Tr.mk k p a y c e)).emb=[vs s,vi k,.list .none 2 (cj p),vi a,.list .none 6 (cm y),.list .none 7 (cH c),.list .none 6 (cm e)]:=rfl
def Cs.name:Cs→Str
 | .mk s _=>s
def Cs.tree:Cs→Tr
 | .mk _ t=>t
theorem dR {M:Tr→Prop}(h:∀ k p a y c e,(∀ x∈y,M x)→(∀ x∈c,M x.tree)→(∀ x∈e,M x)→M (.mk k p a y c e)):∀ x,M x
 | .mk k p a y c e=>h k p a y c e (go y) (goc c) (go e)
 where
 go:∀ l:List Tr,∀ t∈l,M t
 | [],_,ht=>absurd ht (by simp)
 | a::r,t,ht=>(List.mem_cons.1 ht).elim (fun e=>e ▸ dR h a) (fun hr=>go r t hr)
 goc:∀ l:List Cs,∀ t∈l,M t.tree
 | [],_,ht=>absurd ht (by simp)
 | .mk s a::r,t,ht=>(List.mem_cons.1 ht).elim (fun e=>e ▸ dR h a) (fun hr=>goc r t hr)
end Go.Vx
end
section
set_option maxRecDepth 100000
namespace Go.Vx
open Go.Proofs
theorem Gb:(ZB Tryz.prog 64=some 9)∧(Zh Tryz.prog 9=some 1)∧(Ze Tryz.prog 9=some false)∧(Tryz.prog.underlying 64=some (.slice 9)):=by
 refine ⟨?_,?_,?_,?_⟩<;>first | trivial | kernel_rfl
theorem Bg:(True):=by
 first | trivial | kernel_rfl
def bU (l:List Str)(x:Str)(n:Int):Prop:=(∃ i:Nat,l[i]?=some x∧n=i)∨(x ∉ l∧n=-1)
theorem I5 (l:List Str)(x:Str)(rt:Rt)(s:Nat)(hs:s=1∨l=[])(σ:Store):Zi Tryz.prog 252 [.list rt s (Tp l),vs x] σ (fun r σ'=>∃ n,bU l x n∧r=.ret (vi n)∧σ'=σ):=by
 refine Zi.ok (by kernel_rfl) (fun hok=>?_)
 have hl:=(hok _ List.mem_cons_self).len
 rw [List.length_map] at hl
 clear hok
 refine Zb [] [] Tryz.func252 rfl (by kernel_rfl) ?_;rw [Tryz.ntmps252,Tryz.results252]
 try simp only [go_sem,seval,Gb]
 refine Zw (mu:=[]) (dr:=[]) [4,5,8,9,10,11,12,13,14,15,16,17,18] (fun i:Nat=>[(8,vi i)]) (fun i=>σ) (fun i=>i≤l.length∧∀ j:Nat,j<i→l[j]?≠some x) (fun i=>l.length-i) 0 (by kernel_rfl) ⟨by omega,fun j hj=>by omega⟩ ⟨.refl _,trivial⟩ (.refl _) ?_
 rintro i ⟨hi,hb⟩
 try simp only [go_sem,seval,Gb,List.length_map]
 refine ⟨fun h1=>⟨?_,by omega,h1,fun e he=>?_⟩,fun h1=>?_⟩
 ·rcases hs with hs | hs
  ·rw [hs]
  ·rw [hs] at h1;simp at h1;omega
 ·rw [Int.toNat_natCast,List.getElem?_map,Option.map_eq_some_iff] at he
  obtain ⟨e,he,rfl⟩:=he
  try simp only [go_sem,seval,Gb]
  refine ⟨fun h2=>?_,fun h2=>?_⟩
  ·subst h2
   exact .mk (.refl _) (.refl _) ⟨_,.inl ⟨i,he,rfl⟩,rfl,rfl⟩
  ·have hw64:IntKind.i64.wrap ((i:Int)+1)=((i+1:Nat):Int):=Zp (by omega) (by omega)
   rw [hw64]
   refine .mk (i+1) ⟨by omega,fun j hj=>?_⟩ (by omega) ⟨.refl _,trivial⟩ ?_ (.refl _)
   ·by_cases e2:j=i
    ·rw [e2,he];intro hh;injection hh with hh;exact h2 hh.symm
    ·exact hb j (by omega)
   ·repeat refine Zg.put rfl ?_
    exact hJ
 ·refine .mk (.refl _) (.refl _) ⟨_,.inr ⟨fun hm=>?_,rfl⟩,rfl,rfl⟩
  obtain ⟨j,hj,hx⟩:=List.getElem_of_mem hm
  exact hb j (by omega) (by rw [← hx];exact List.getElem?_eq_getElem hj)
instance decMemStr (x:Str) (l:List Str):Decidable (x∈l):=decidable_of_iff (l.any (fun y=>decide (x=y))=true) (by simp)
theorem Yc (l:List Str)(x:Str)(rt:Rt)(s:Nat)(hs:s=1∨l=[]):Pur Tryz.prog 212 [.list rt s (Tp l),vs x] (vb (decide (x∈l))):=by
 intro σ
 refine Zb [] [] Tryz.func212 rfl (by kernel_rfl) ?_;rw [Tryz.ntmps212,Tryz.results212]
 try simp only [go_sem,seval,Bg]
 refine (I5 l x rt s hs σ).mono ?_
 rintro r _ ⟨n,hn,rfl,rfl⟩
 try simp only [go_sem,seval,Bg]
 refine Zz ?_
 rcases hn with ⟨i,hi,rfl⟩ | ⟨hn,rfl⟩
 ·have:x∈l:=List.mem_of_getElem? hi
  simp [this]
 ·simp [hn]
end Go.Vx
end
