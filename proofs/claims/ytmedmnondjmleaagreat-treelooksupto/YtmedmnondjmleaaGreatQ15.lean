/- Part Q15 of the proof of treeLooksProved: the walk of the program on abstract values, and the plain law. -/
import Derived.Test.YtmedmnondjmleaaGreatQ14
set_option linter.unusedVariables false
set_option linter.unusedSimpArgs false
section
set_option maxRecDepth 100000
namespace Go.Vx
open Go.Proofs
def Ll (b:Nat→Bool)(n:Nat)(St:Nat→Store):ZO→Store→Prop:=fun r σ' =>
 (∃ i:Nat,i<n∧b i=true∧(∀ j,j<i→b j=false)∧r=.ret (vi i)∧σ'=St (i+1))∨((∀ j,j<n→b j=false)∧r=.ret (vi (-1))∧σ'=St n)
def Pg (b:Nat→Bool)(n:Nat)(St:Nat→Store):ZO→Store→Prop:=fun r σ' =>
 (∃ i:Nat,i<n∧b i=true∧(∀ j,j<i→b j=false)∧r=.ret (vb true)∧σ'=St (i+1))∨((∀ j,j<n→b j=false)∧r=.ret (vb false)∧σ'=St n)
theorem PU:(ZA Tryz.prog 126=some 150)∧(Zh Tryz.prog 150=some 2)∧(Ze Tryz.prog 150=some true)∧(Tryz.prog.underlying 126=some (.slice 150)):=by
 refine ⟨?_,?_,?_,?_⟩<;>first | trivial | kernel_rfl
theorem Nd (f:Value)(rt:Rt)(s:Nat)(es:List (List AV))(St:Nat→Store)(b:Nat→Bool)(hs:s=2∨es=[])(hlen:∀ (i:Nat) (e:List AV),es[i]?=some e→e.length=2)
 (hf:∀ (i:Nat) (e:List AV),es[i]?=some e→(∀ j,j<i→b j=false)→ZX Tryz.prog (.val f) [.agg e] (St i) (fun r σ'=>r=.ret (vb (b i))∧σ'=St (i+1))) :
 Zj Tryz.prog 207 [.list rt s es,.val f] (St 0) (Ll b es.length St):=by
 refine Zj.ok (by kernel_rfl) (fun hok=>?_)
 have hl:=(hok _ List.mem_cons_self).len
 clear hok
 refine Zc [] [] Tryz.func207 rfl (by kernel_rfl) ?_;rw [Tryz.ntmps207,Tryz.results207]
 try simp only [go_sem,seval,PU]
 refine Zv (mu:=[]) (dr:=[]) [4,5,8,9,10,11,12,13,14,15,16,17,18] (fun i:Nat=>[(8,vi i)]) (fun i=>St i) (fun i=>i≤es.length∧∀ j,j<i→b j=false) (fun i=>es.length-i) 0 (by kernel_rfl) ⟨by omega,fun j hj=>by omega⟩ ⟨.refl _,trivial⟩ (.refl _) ?_
 rintro i ⟨hi,hb⟩
 try simp only [go_sem,seval,PU]
 refine ⟨fun h1=>⟨?_,by omega,h1,fun e he=>?_⟩,fun h1=>?_⟩
 ·rcases hs with hs | hs
  ·rw [hs]
  ·rw [hs] at h1;simp at h1;omega
 ·rw [Int.toNat_natCast] at he
  have he2:=hlen i e he
  have hta:List.take 2 e=e:=List.take_of_length_le (by omega)
  try simp only [go_sem,seval,PU,he2,hta]
  refine (hf i e he hb).mono ?_
  rintro r _ ⟨rfl,rfl⟩
  try simp only [go_sem,seval,PU]
  cases hbi:b i with
  | true =>
    try simp only [go_sem,seval,PU]
    exact .mk (.refl _) (.refl _) (.inl ⟨i,by omega,hbi,hb,rfl,rfl⟩)
  | false =>
    try simp only [go_sem,seval,PU]
    have hw64:IntKind.i64.wrap ((i:Int)+1)=((i+1:Nat):Int):=Zp (by omega) (by omega)
    rw [hw64]
    refine .mk (i+1) ⟨by omega,fun j hj=>?_⟩ (by omega) ⟨.refl _,trivial⟩ ?_ (.refl _)
    ·by_cases e:j=i
     ·rw [e];exact hbi
     ·exact hb j (by omega)
    ·repeat refine Zf.put rfl ?_
     exact ig
 ·have hi2:i=es.length:=by omega
  subst hi2
  exact fd
theorem Gj:(True):=by
 first | trivial | kernel_rfl
theorem Rp (f:Value)(rt:Rt)(s:Nat)(es:List (List AV))(St:Nat→Store)(b:Nat→Bool)(hs:s=2∨es=[])(hlen:∀ (i:Nat) (e:List AV),es[i]?=some e→e.length=2)
 (hf:∀ (i:Nat) (e:List AV),es[i]?=some e→(∀ j,j<i→b j=false)→ZX Tryz.prog (.val f) [.agg e] (St i) (fun r σ'=>r=.ret (vb (b i))∧σ'=St (i+1))) :
 Zj Tryz.prog 162 [.list rt s es,.val f] (St 0) (Pg b es.length St):=by
 refine Zc [] [] Tryz.func162 rfl (by kernel_rfl) ?_;rw [Tryz.ntmps162,Tryz.results162]
 try simp only [go_sem,seval,Gj]
 refine (Nd f rt s es St b hs hlen hf).mono ?_
 rintro r σ' (⟨i,hi,hb,hn,rfl,rfl⟩ | ⟨hn,rfl,rfl⟩)
 ·try simp only [go_sem,seval,Gj]
  exact .mk (.refl _) (.refl _) (.inl ⟨i,hi,hb,hn,by simp,rfl⟩)
 ·try simp only [go_sem,seval,Gj]
  exact eZ
theorem J7:(ZA Tryz.prog 33=some 52)∧(Zh Tryz.prog 52=some 4)∧(Ze Tryz.prog 52=some true)∧(Tryz.prog.underlying 33=some (.slice 52)):=by
 refine ⟨?_,?_,?_,?_⟩<;>first | trivial | kernel_rfl
theorem Nf (f:Value)(rt:Rt)(s:Nat)(es:List (List AV))(St:Nat→Store)(b:Nat→Bool)(hs:s=4∨es=[])(hlen:∀ (i:Nat) (e:List AV),es[i]?=some e→e.length=4)
 (hf:∀ (i:Nat) (e:List AV),es[i]?=some e→(∀ j,j<i→b j=false)→ZX Tryz.prog (.val f) [.agg e] (St i) (fun r σ'=>r=.ret (vb (b i))∧σ'=St (i+1))) :
 Zj Tryz.prog 98 [.list rt s es,.val f] (St 0) (Ll b es.length St):=by
 refine Zj.ok (by kernel_rfl) (fun hok=>?_)
 have hl:=(hok _ List.mem_cons_self).len
 clear hok
 refine Zc [] [] Tryz.func98 rfl (by kernel_rfl) ?_;rw [Tryz.ntmps98,Tryz.results98]
 try simp only [go_sem,seval,J7]
 refine Zv (mu:=[]) (dr:=[]) [4,5,8,9,10,11,12,13,14,15,16,17,18] (fun i:Nat=>[(8,vi i)]) (fun i=>St i) (fun i=>i≤es.length∧∀ j,j<i→b j=false) (fun i=>es.length-i) 0 (by kernel_rfl) ⟨by omega,fun j hj=>by omega⟩ ⟨.refl _,trivial⟩ (.refl _) ?_
 rintro i ⟨hi,hb⟩
 try simp only [go_sem,seval,J7]
 refine ⟨fun h1=>⟨?_,by omega,h1,fun e he=>?_⟩,fun h1=>?_⟩
 ·rcases hs with hs | hs
  ·rw [hs]
  ·rw [hs] at h1;simp at h1;omega
 ·rw [Int.toNat_natCast] at he
  have he2:=hlen i e he
  have hta:List.take 4 e=e:=List.take_of_length_le (by omega)
  try simp only [go_sem,seval,J7,he2,hta]
  refine (hf i e he hb).mono ?_
  rintro r _ ⟨rfl,rfl⟩
  try simp only [go_sem,seval,J7]
  cases hbi:b i with
  | true =>
    try simp only [go_sem,seval,J7]
    exact .mk (.refl _) (.refl _) (.inl ⟨i,by omega,hbi,hb,rfl,rfl⟩)
  | false =>
    try simp only [go_sem,seval,J7]
    have hw64:IntKind.i64.wrap ((i:Int)+1)=((i+1:Nat):Int):=Zp (by omega) (by omega)
    rw [hw64]
    refine .mk (i+1) ⟨by omega,fun j hj=>?_⟩ (by omega) ⟨.refl _,trivial⟩ ?_ (.refl _)
    ·by_cases e:j=i
     ·rw [e];exact hbi
     ·exact hb j (by omega)
    ·repeat refine Zf.put rfl ?_
     exact ig
 ·have hi2:i=es.length:=by omega
  subst hi2
  exact fd
theorem BS:(True):=by
 first | trivial | kernel_rfl
theorem Rq (f:Value)(rt:Rt)(s:Nat)(es:List (List AV))(St:Nat→Store)(b:Nat→Bool)(hs:s=4∨es=[])(hlen:∀ (i:Nat) (e:List AV),es[i]?=some e→e.length=4)
 (hf:∀ (i:Nat) (e:List AV),es[i]?=some e→(∀ j,j<i→b j=false)→ZX Tryz.prog (.val f) [.agg e] (St i) (fun r σ'=>r=.ret (vb (b i))∧σ'=St (i+1))) :
 Zj Tryz.prog 58 [.list rt s es,.val f] (St 0) (Pg b es.length St):=by
 refine Zc [] [] Tryz.func58 rfl (by kernel_rfl) ?_;rw [Tryz.ntmps58,Tryz.results58]
 try simp only [go_sem,seval,BS]
 refine (Nf f rt s es St b hs hlen hf).mono ?_
 rintro r σ' (⟨i,hi,hb,hn,rfl,rfl⟩ | ⟨hn,rfl,rfl⟩)
 ·try simp only [go_sem,seval,BS]
  exact .mk (.refl _) (.refl _) (.inl ⟨i,hi,hb,hn,by simp,rfl⟩)
 ·try simp only [go_sem,seval,BS]
  exact eZ
theorem PV:(ZA Tryz.prog 27=some 30)∧(Zh Tryz.prog 30=some 6)∧(Ze Tryz.prog 30=some true)∧(Tryz.prog.underlying 27=some (.slice 30)):=by
 refine ⟨?_,?_,?_,?_⟩<;>first | trivial | kernel_rfl
theorem Qx (f:Value)(rt:Rt)(s:Nat)(es:List (List AV))(St:Nat→Store)(b:Nat→Bool)(hs:s=6∨es=[])(hlen:∀ (i:Nat) (e:List AV),es[i]?=some e→e.length=6)
 (hf:∀ (i:Nat) (e:List AV),es[i]?=some e→(∀ j,j<i→b j=false)→ZX Tryz.prog (.val f) [.agg e] (St i) (fun r σ'=>r=.ret (vb (b i))∧σ'=St (i+1))) :
 Zj Tryz.prog 186 [.list rt s es,.val f] (St 0) (Ll b es.length St):=by
 refine Zj.ok (by kernel_rfl) (fun hok=>?_)
 have hl:=(hok _ List.mem_cons_self).len
 clear hok
 refine Zc [] [] Tryz.func186 rfl (by kernel_rfl) ?_;rw [Tryz.ntmps186,Tryz.results186]
 try simp only [go_sem,seval,PV]
 refine Zv (mu:=[]) (dr:=[]) [4,5,8,9,10,11,12,13,14,15,16,17,18] (fun i:Nat=>[(8,vi i)]) (fun i=>St i) (fun i=>i≤es.length∧∀ j,j<i→b j=false) (fun i=>es.length-i) 0 (by kernel_rfl) ⟨by omega,fun j hj=>by omega⟩ ⟨.refl _,trivial⟩ (.refl _) ?_
 rintro i ⟨hi,hb⟩
 try simp only [go_sem,seval,PV]
 refine ⟨fun h1=>⟨?_,by omega,h1,fun e he=>?_⟩,fun h1=>?_⟩
 ·rcases hs with hs | hs
  ·rw [hs]
  ·rw [hs] at h1;simp at h1;omega
 ·rw [Int.toNat_natCast] at he
  have he2:=hlen i e he
  have hta:List.take 6 e=e:=List.take_of_length_le (by omega)
  try simp only [go_sem,seval,PV,he2,hta]
  refine (hf i e he hb).mono ?_
  rintro r _ ⟨rfl,rfl⟩
  try simp only [go_sem,seval,PV]
  cases hbi:b i with
  | true =>
    try simp only [go_sem,seval,PV]
    exact .mk (.refl _) (.refl _) (.inl ⟨i,by omega,hbi,hb,rfl,rfl⟩)
  | false =>
    try simp only [go_sem,seval,PV]
    have hw64:IntKind.i64.wrap ((i:Int)+1)=((i+1:Nat):Int):=Zp (by omega) (by omega)
    rw [hw64]
    refine .mk (i+1) ⟨by omega,fun j hj=>?_⟩ (by omega) ⟨.refl _,trivial⟩ ?_ (.refl _)
    ·by_cases e:j=i
     ·rw [e];exact hbi
     ·exact hb j (by omega)
    ·repeat refine Zf.put rfl ?_
     exact ig
 ·have hi2:i=es.length:=by omega
  subst hi2
  exact fd
theorem Gm:(True):=by
 first | trivial | kernel_rfl
theorem T3 (f:Value)(rt:Rt)(s:Nat)(es:List (List AV))(St:Nat→Store)(b:Nat→Bool)(hs:s=6∨es=[])(hlen:∀ (i:Nat) (e:List AV),es[i]?=some e→e.length=6)
 (hf:∀ (i:Nat) (e:List AV),es[i]?=some e→(∀ j,j<i→b j=false)→ZX Tryz.prog (.val f) [.agg e] (St i) (fun r σ'=>r=.ret (vb (b i))∧σ'=St (i+1))) :
 Zj Tryz.prog 144 [.list rt s es,.val f] (St 0) (Pg b es.length St):=by
 refine Zc [] [] Tryz.func144 rfl (by kernel_rfl) ?_;rw [Tryz.ntmps144,Tryz.results144]
 try simp only [go_sem,seval,Gm]
 refine (Qx f rt s es St b hs hlen hf).mono ?_
 rintro r σ' (⟨i,hi,hb,hn,rfl,rfl⟩ | ⟨hn,rfl,rfl⟩)
 ·try simp only [go_sem,seval,Gm]
  exact .mk (.refl _) (.refl _) (.inl ⟨i,hi,hb,hn,by simp,rfl⟩)
 ·try simp only [go_sem,seval,Gm]
  exact eZ
theorem Ia:(ZA Tryz.prog 28=some 114)∧(Zh Tryz.prog 114=some 7)∧(Ze Tryz.prog 114=some true)∧(Tryz.prog.underlying 28=some (.slice 114)):=by
 refine ⟨?_,?_,?_,?_⟩<;>first | trivial | kernel_rfl
theorem Uz (f:Value)(rt:Rt)(s:Nat)(es:List (List AV))(St:Nat→Store)(b:Nat→Bool)(hs:s=7∨es=[])(hlen:∀ (i:Nat) (e:List AV),es[i]?=some e→e.length=7)
 (hf:∀ (i:Nat) (e:List AV),es[i]?=some e→(∀ j,j<i→b j=false)→ZX Tryz.prog (.val f) [.agg e] (St i) (fun r σ'=>r=.ret (vb (b i))∧σ'=St (i+1))) :
 Zj Tryz.prog 63 [.list rt s es,.val f] (St 0) (Ll b es.length St):=by
 refine Zj.ok (by kernel_rfl) (fun hok=>?_)
 have hl:=(hok _ List.mem_cons_self).len
 clear hok
 refine Zc [] [] Tryz.func63 rfl (by kernel_rfl) ?_;rw [Tryz.ntmps63,Tryz.results63]
 try simp only [go_sem,seval,Ia]
 refine Zv (mu:=[]) (dr:=[]) [4,5,8,9,10,11,12,13,14,15,16,17,18] (fun i:Nat=>[(8,vi i)]) (fun i=>St i) (fun i=>i≤es.length∧∀ j,j<i→b j=false) (fun i=>es.length-i) 0 (by kernel_rfl) ⟨by omega,fun j hj=>by omega⟩ ⟨.refl _,trivial⟩ (.refl _) ?_
 rintro i ⟨hi,hb⟩
 try simp only [go_sem,seval,Ia]
 refine ⟨fun h1=>⟨?_,by omega,h1,fun e he=>?_⟩,fun h1=>?_⟩
 ·rcases hs with hs | hs
  ·rw [hs]
  ·rw [hs] at h1;simp at h1;omega
 ·rw [Int.toNat_natCast] at he
  have he2:=hlen i e he
  have hta:List.take 7 e=e:=List.take_of_length_le (by omega)
  try simp only [go_sem,seval,Ia,he2,hta]
  refine (hf i e he hb).mono ?_
  rintro r _ ⟨rfl,rfl⟩
  try simp only [go_sem,seval,Ia]
  cases hbi:b i with
  | true =>
    try simp only [go_sem,seval,Ia]
    exact .mk (.refl _) (.refl _) (.inl ⟨i,by omega,hbi,hb,rfl,rfl⟩)
  | false =>
    try simp only [go_sem,seval,Ia]
    have hw64:IntKind.i64.wrap ((i:Int)+1)=((i+1:Nat):Int):=Zp (by omega) (by omega)
    rw [hw64]
    refine .mk (i+1) ⟨by omega,fun j hj=>?_⟩ (by omega) ⟨.refl _,trivial⟩ ?_ (.refl _)
    ·by_cases e:j=i
     ·rw [e];exact hbi
     ·exact hb j (by omega)
    ·repeat refine Zf.put rfl ?_
     exact ig
 ·have hi2:i=es.length:=by omega
  subst hi2
  exact fd
theorem Gt:(True):=by
 first | trivial | kernel_rfl
theorem T5 (f:Value)(rt:Rt)(s:Nat)(es:List (List AV))(St:Nat→Store)(b:Nat→Bool)(hs:s=7∨es=[])(hlen:∀ (i:Nat) (e:List AV),es[i]?=some e→e.length=7)
 (hf:∀ (i:Nat) (e:List AV),es[i]?=some e→(∀ j,j<i→b j=false)→ZX Tryz.prog (.val f) [.agg e] (St i) (fun r σ'=>r=.ret (vb (b i))∧σ'=St (i+1))) :
 Zj Tryz.prog 114 [.list rt s es,.val f] (St 0) (Pg b es.length St):=by
 refine Zc [] [] Tryz.func114 rfl (by kernel_rfl) ?_;rw [Tryz.ntmps114,Tryz.results114]
 try simp only [go_sem,seval,Gt]
 refine (Uz f rt s es St b hs hlen hf).mono ?_
 rintro r σ' (⟨i,hi,hb,hn,rfl,rfl⟩ | ⟨hn,rfl,rfl⟩)
 ·try simp only [go_sem,seval,Gt]
  exact .mk (.refl _) (.refl _) (.inl ⟨i,hi,hb,hn,by simp,rfl⟩)
 ·try simp only [go_sem,seval,Gt]
  exact eZ
theorem J9:(ZA Tryz.prog 99=some 110)∧(Zh Tryz.prog 110=some 3)∧(Ze Tryz.prog 110=some true)∧(Tryz.prog.underlying 99=some (.slice 110)):=by
 refine ⟨?_,?_,?_,?_⟩<;>first | trivial | kernel_rfl
theorem Ps (f:Value)(rt:Rt)(s:Nat)(es:List (List AV))(St:Nat→Store)(b:Nat→Bool)(hs:s=3∨es=[])(hlen:∀ (i:Nat) (e:List AV),es[i]?=some e→e.length=3)
 (hf:∀ (i:Nat) (e:List AV),es[i]?=some e→(∀ j,j<i→b j=false)→ZX Tryz.prog (.val f) [.agg e] (St i) (fun r σ'=>r=.ret (vb (b i))∧σ'=St (i+1))) :
 Zj Tryz.prog 73 [.list rt s es,.val f] (St 0) (Ll b es.length St):=by
 refine Zj.ok (by kernel_rfl) (fun hok=>?_)
 have hl:=(hok _ List.mem_cons_self).len
 clear hok
 refine Zc [] [] Tryz.func73 rfl (by kernel_rfl) ?_;rw [Tryz.ntmps73,Tryz.results73]
 try simp only [go_sem,seval,J9]
 refine Zv (mu:=[]) (dr:=[]) [4,5,8,9,10,11,12,13,14,15,16,17,18] (fun i:Nat=>[(8,vi i)]) (fun i=>St i) (fun i=>i≤es.length∧∀ j,j<i→b j=false) (fun i=>es.length-i) 0 (by kernel_rfl) ⟨by omega,fun j hj=>by omega⟩ ⟨.refl _,trivial⟩ (.refl _) ?_
 rintro i ⟨hi,hb⟩
 try simp only [go_sem,seval,J9]
 refine ⟨fun h1=>⟨?_,by omega,h1,fun e he=>?_⟩,fun h1=>?_⟩
 ·rcases hs with hs | hs
  ·rw [hs]
  ·rw [hs] at h1;simp at h1;omega
 ·rw [Int.toNat_natCast] at he
  have he2:=hlen i e he
  have hta:List.take 3 e=e:=List.take_of_length_le (by omega)
  try simp only [go_sem,seval,J9,he2,hta]
  refine (hf i e he hb).mono ?_
  rintro r _ ⟨rfl,rfl⟩
  try simp only [go_sem,seval,J9]
  cases hbi:b i with
  | true =>
    try simp only [go_sem,seval,J9]
    exact .mk (.refl _) (.refl _) (.inl ⟨i,by omega,hbi,hb,rfl,rfl⟩)
  | false =>
    try simp only [go_sem,seval,J9]
    have hw64:IntKind.i64.wrap ((i:Int)+1)=((i+1:Nat):Int):=Zp (by omega) (by omega)
    rw [hw64]
    refine .mk (i+1) ⟨by omega,fun j hj=>?_⟩ (by omega) ⟨.refl _,trivial⟩ ?_ (.refl _)
    ·by_cases e:j=i
     ·rw [e];exact hbi
     ·exact hb j (by omega)
    ·repeat refine Zf.put rfl ?_
     exact ig
 ·have hi2:i=es.length:=by omega
  subst hi2
  exact fd
theorem Gv:(True):=by
 first | trivial | kernel_rfl
theorem SF (f:Value)(rt:Rt)(s:Nat)(es:List (List AV))(St:Nat→Store)(b:Nat→Bool)(hs:s=3∨es=[])(hlen:∀ (i:Nat) (e:List AV),es[i]?=some e→e.length=3)
 (hf:∀ (i:Nat) (e:List AV),es[i]?=some e→(∀ j,j<i→b j=false)→ZX Tryz.prog (.val f) [.agg e] (St i) (fun r σ'=>r=.ret (vb (b i))∧σ'=St (i+1))) :
 Zj Tryz.prog 108 [.list rt s es,.val f] (St 0) (Pg b es.length St):=by
 refine Zc [] [] Tryz.func108 rfl (by kernel_rfl) ?_;rw [Tryz.ntmps108,Tryz.results108]
 try simp only [go_sem,seval,Gv]
 refine (Ps f rt s es St b hs hlen hf).mono ?_
 rintro r σ' (⟨i,hi,hb,hn,rfl,rfl⟩ | ⟨hn,rfl,rfl⟩)
 ·try simp only [go_sem,seval,Gv]
  exact .mk (.refl _) (.refl _) (.inl ⟨i,hi,hb,hn,by simp,rfl⟩)
 ·try simp only [go_sem,seval,Gv]
  exact eZ
theorem PX:(ZA Tryz.prog 108=some 107)∧(Zh Tryz.prog 107=some 2)∧(Ze Tryz.prog 107=some true)∧(Tryz.prog.underlying 108=some (.slice 107)):=by
 refine ⟨?_,?_,?_,?_⟩<;>first | trivial | kernel_rfl
theorem Rm (f:Value)(rt:Rt)(s:Nat)(es:List (List AV))(St:Nat→Store)(b:Nat→Bool)(hs:s=2∨es=[])(hlen:∀ (i:Nat) (e:List AV),es[i]?=some e→e.length=2)
 (hf:∀ (i:Nat) (e:List AV),es[i]?=some e→(∀ j,j<i→b j=false)→ZX Tryz.prog (.val f) [.agg e] (St i) (fun r σ'=>r=.ret (vb (b i))∧σ'=St (i+1))) :
 Zj Tryz.prog 146 [.list rt s es,.val f] (St 0) (Ll b es.length St):=by
 refine Zj.ok (by kernel_rfl) (fun hok=>?_)
 have hl:=(hok _ List.mem_cons_self).len
 clear hok
 refine Zc [] [] Tryz.func146 rfl (by kernel_rfl) ?_;rw [Tryz.ntmps146,Tryz.results146]
 try simp only [go_sem,seval,PX]
 refine Zv (mu:=[]) (dr:=[]) [4,5,8,9,10,11,12,13,14,15,16,17,18] (fun i:Nat=>[(8,vi i)]) (fun i=>St i) (fun i=>i≤es.length∧∀ j,j<i→b j=false) (fun i=>es.length-i) 0 (by kernel_rfl) ⟨by omega,fun j hj=>by omega⟩ ⟨.refl _,trivial⟩ (.refl _) ?_
 rintro i ⟨hi,hb⟩
 try simp only [go_sem,seval,PX]
 refine ⟨fun h1=>⟨?_,by omega,h1,fun e he=>?_⟩,fun h1=>?_⟩
 ·rcases hs with hs | hs
  ·rw [hs]
  ·rw [hs] at h1;simp at h1;omega
 ·rw [Int.toNat_natCast] at he
  have he2:=hlen i e he
  have hta:List.take 2 e=e:=List.take_of_length_le (by omega)
  try simp only [go_sem,seval,PX,he2,hta]
  refine (hf i e he hb).mono ?_
  rintro r _ ⟨rfl,rfl⟩
  try simp only [go_sem,seval,PX]
  cases hbi:b i with
  | true =>
    try simp only [go_sem,seval,PX]
    exact .mk (.refl _) (.refl _) (.inl ⟨i,by omega,hbi,hb,rfl,rfl⟩)
  | false =>
    try simp only [go_sem,seval,PX]
    have hw64:IntKind.i64.wrap ((i:Int)+1)=((i+1:Nat):Int):=Zp (by omega) (by omega)
    rw [hw64]
    refine .mk (i+1) ⟨by omega,fun j hj=>?_⟩ (by omega) ⟨.refl _,trivial⟩ ?_ (.refl _)
    ·by_cases e:j=i
     ·rw [e];exact hbi
     ·exact hb j (by omega)
    ·repeat refine Zf.put rfl ?_
     exact ig
 ·have hi2:i=es.length:=by omega
  subst hi2
  exact fd
theorem Gu:(True):=by
 first | trivial | kernel_rfl
theorem Ts (f:Value)(rt:Rt)(s:Nat)(es:List (List AV))(St:Nat→Store)(b:Nat→Bool)(hs:s=2∨es=[])(hlen:∀ (i:Nat) (e:List AV),es[i]?=some e→e.length=2)
 (hf:∀ (i:Nat) (e:List AV),es[i]?=some e→(∀ j,j<i→b j=false)→ZX Tryz.prog (.val f) [.agg e] (St i) (fun r σ'=>r=.ret (vb (b i))∧σ'=St (i+1))) :
 Zj Tryz.prog 110 [.list rt s es,.val f] (St 0) (Pg b es.length St):=by
 refine Zc [] [] Tryz.func110 rfl (by kernel_rfl) ?_;rw [Tryz.ntmps110,Tryz.results110]
 try simp only [go_sem,seval,Gu]
 refine (Rm f rt s es St b hs hlen hf).mono ?_
 rintro r σ' (⟨i,hi,hb,hn,rfl,rfl⟩ | ⟨hn,rfl,rfl⟩)
 ·try simp only [go_sem,seval,Gu]
  exact .mk (.refl _) (.refl _) (.inl ⟨i,hi,hb,hn,by simp,rfl⟩)
 ·try simp only [go_sem,seval,Gu]
  exact eZ
theorem PO:(ZA Tryz.prog 23=some 3)∧(Zh Tryz.prog 3=some 1)∧(Ze Tryz.prog 3=some false)∧(Tryz.prog.underlying 23=some (.slice 3)):=by
 refine ⟨?_,?_,?_,?_⟩<;>first | trivial | kernel_rfl
theorem Pt (f:Value)(rt:Rt)(s:Nat)(es:List AV)(St:Nat→Store)(b:Nat→Bool)(hs:s=1∨es=[])
 (hf:∀ (i:Nat) (e:AV),es[i]?=some e→(∀ j,j<i→b j=false)→ZX Tryz.prog (.val f) [e] (St i) (fun r σ'=>r=.ret (vb (b i))∧σ'=St (i+1))) :
 Zj Tryz.prog 256 [.list rt s (es.map fun x=>[x]),.val f] (St 0) (Ll b es.length St):=by
 refine Zj.ok (by kernel_rfl) (fun hok=>?_)
 have hl:=(hok _ List.mem_cons_self).len
 rw [List.length_map] at hl
 clear hok
 refine Zc [] [] Tryz.func256 rfl (by kernel_rfl) ?_;rw [Tryz.ntmps256,Tryz.results256]
 try simp only [go_sem,seval,PO]
 refine Zv (mu:=[]) (dr:=[]) [4,5,8,9,10,11,12,13,14,15,16,17,18] (fun i:Nat=>[(8,vi i)]) (fun i=>St i) (fun i=>i≤es.length∧∀ j,j<i→b j=false) (fun i=>es.length-i) 0 (by kernel_rfl) ⟨by omega,fun j hj=>by omega⟩ ⟨.refl _,trivial⟩ (.refl _) ?_
 rintro i ⟨hi,hb⟩
 try simp only [go_sem,seval,PO,List.length_map]
 refine ⟨fun h1=>⟨?_,by omega,h1,fun e he=>?_⟩,fun h1=>?_⟩
 ·rcases hs with hs | hs
  ·rw [hs]
  ·rw [hs] at h1;simp at h1;omega
 ·rw [Int.toNat_natCast] at he
  rw [List.getElem?_map,Option.map_eq_some_iff] at he
  obtain ⟨e,he,rfl⟩:=he
  try simp only [go_sem,seval,PO]
  refine (hf i e he hb).mono ?_
  rintro r _ ⟨rfl,rfl⟩
  try simp only [go_sem,seval,PO]
  cases hbi:b i with
  | true =>
    try simp only [go_sem,seval,PO]
    exact .mk (.refl _) (.refl _) (.inl ⟨i,by omega,hbi,hb,rfl,rfl⟩)
  | false =>
    try simp only [go_sem,seval,PO]
    have hw64:IntKind.i64.wrap ((i:Int)+1)=((i+1:Nat):Int):=Zp (by omega) (by omega)
    rw [hw64]
    refine .mk (i+1) ⟨by omega,fun j hj=>?_⟩ (by omega) ⟨.refl _,trivial⟩ ?_ (.refl _)
    ·by_cases e:j=i
     ·rw [e];exact hbi
     ·exact hb j (by omega)
    ·repeat refine Zf.put rfl ?_
     exact ig
 ·have hi2:i=es.length:=by omega
  subst hi2
  exact fd
theorem Gf:(True):=by
 first | trivial | kernel_rfl
theorem VE (f:Value)(rt:Rt)(s:Nat)(es:List AV)(St:Nat→Store)(b:Nat→Bool)(hs:s=1∨es=[])
 (hf:∀ (i:Nat) (e:AV),es[i]?=some e→(∀ j,j<i→b j=false)→ZX Tryz.prog (.val f) [e] (St i) (fun r σ'=>r=.ret (vb (b i))∧σ'=St (i+1))) :
 Zj Tryz.prog 217 [.list rt s (es.map fun x=>[x]),.val f] (St 0) (Pg b es.length St):=by
 refine Zc [] [] Tryz.func217 rfl (by kernel_rfl) ?_;rw [Tryz.ntmps217,Tryz.results217]
 try simp only [go_sem,seval,Gf]
 refine (Pt f rt s es St b hs hf).mono ?_
 rintro r σ' (⟨i,hi,hb,hn,rfl,rfl⟩ | ⟨hn,rfl,rfl⟩)
 ·try simp only [go_sem,seval,Gf]
  exact .mk (.refl _) (.refl _) (.inl ⟨i,hi,hb,hn,by simp,rfl⟩)
 ·try simp only [go_sem,seval,Gf]
  exact eZ
theorem PP:(ZA Tryz.prog 184=some 23)∧(Zh Tryz.prog 23=some 1)∧(Ze Tryz.prog 23=some false)∧(Tryz.prog.underlying 184=some (.slice 23)):=by
 refine ⟨?_,?_,?_,?_⟩<;>first | trivial | kernel_rfl
theorem Qy (f:Value)(rt:Rt)(s:Nat)(es:List AV)(St:Nat→Store)(b:Nat→Bool)(hs:s=1∨es=[])
 (hf:∀ (i:Nat) (e:AV),es[i]?=some e→(∀ j,j<i→b j=false)→ZX Tryz.prog (.val f) [e] (St i) (fun r σ'=>r=.ret (vb (b i))∧σ'=St (i+1))) :
 Zj Tryz.prog 223 [.list rt s (es.map fun x=>[x]),.val f] (St 0) (Ll b es.length St):=by
 refine Zj.ok (by kernel_rfl) (fun hok=>?_)
 have hl:=(hok _ List.mem_cons_self).len
 rw [List.length_map] at hl
 clear hok
 refine Zc [] [] Tryz.func223 rfl (by kernel_rfl) ?_;rw [Tryz.ntmps223,Tryz.results223]
 try simp only [go_sem,seval,PP]
 refine Zv (mu:=[]) (dr:=[]) [4,5,8,9,10,11,12,13,14,15,16,17,18] (fun i:Nat=>[(8,vi i)]) (fun i=>St i) (fun i=>i≤es.length∧∀ j,j<i→b j=false) (fun i=>es.length-i) 0 (by kernel_rfl) ⟨by omega,fun j hj=>by omega⟩ ⟨.refl _,trivial⟩ (.refl _) ?_
 rintro i ⟨hi,hb⟩
 try simp only [go_sem,seval,PP,List.length_map]
 refine ⟨fun h1=>⟨?_,by omega,h1,fun e he=>?_⟩,fun h1=>?_⟩
 ·rcases hs with hs | hs
  ·rw [hs]
  ·rw [hs] at h1;simp at h1;omega
 ·rw [Int.toNat_natCast] at he
  rw [List.getElem?_map,Option.map_eq_some_iff] at he
  obtain ⟨e,he,rfl⟩:=he
  try simp only [go_sem,seval,PP]
  refine (hf i e he hb).mono ?_
  rintro r _ ⟨rfl,rfl⟩
  try simp only [go_sem,seval,PP]
  cases hbi:b i with
  | true =>
    try simp only [go_sem,seval,PP]
    exact .mk (.refl _) (.refl _) (.inl ⟨i,by omega,hbi,hb,rfl,rfl⟩)
  | false =>
    try simp only [go_sem,seval,PP]
    have hw64:IntKind.i64.wrap ((i:Int)+1)=((i+1:Nat):Int):=Zp (by omega) (by omega)
    rw [hw64]
    refine .mk (i+1) ⟨by omega,fun j hj=>?_⟩ (by omega) ⟨.refl _,trivial⟩ ?_ (.refl _)
    ·by_cases e:j=i
     ·rw [e];exact hbi
     ·exact hb j (by omega)
    ·repeat refine Zf.put rfl ?_
     exact ig
 ·have hi2:i=es.length:=by omega
  subst hi2
  exact fd
theorem Gi:(True):=by
 first | trivial | kernel_rfl
theorem T4 (f:Value)(rt:Rt)(s:Nat)(es:List AV)(St:Nat→Store)(b:Nat→Bool)(hs:s=1∨es=[])
 (hf:∀ (i:Nat) (e:AV),es[i]?=some e→(∀ j,j<i→b j=false)→ZX Tryz.prog (.val f) [e] (St i) (fun r σ'=>r=.ret (vb (b i))∧σ'=St (i+1))) :
 Zj Tryz.prog 169 [.list rt s (es.map fun x=>[x]),.val f] (St 0) (Pg b es.length St):=by
 refine Zc [] [] Tryz.func169 rfl (by kernel_rfl) ?_;rw [Tryz.ntmps169,Tryz.results169]
 try simp only [go_sem,seval,Gi]
 refine (Qy f rt s es St b hs hf).mono ?_
 rintro r σ' (⟨i,hi,hb,hn,rfl,rfl⟩ | ⟨hn,rfl,rfl⟩)
 ·try simp only [go_sem,seval,Gi]
  exact .mk (.refl _) (.refl _) (.inl ⟨i,hi,hb,hn,by simp,rfl⟩)
 ·try simp only [go_sem,seval,Gi]
  exact eZ
end Go.Vx
end
section
namespace Go.Vx
abbrev Tk (l:List Str):List (List AV):=l.map fun s=>[.val (.string s)]
abbrev Yz (l:List Int):List (List AV):=l.map fun n=>[vi n]
abbrev XA (l:List Bool):List (List AV):=l.map fun b=>[vb b]
inductive Zg where
 | mk (kind:Int) (name:Str) (args:List Tm) (ty:Ty) (l:List Zg) (n group:Int) (env:List Int)
structure FClause where
 vars:List Ty
 locals:List Ty
 path:List Int
 name:Str
 args:List Tm
 goals:List Zg
 lasts:List Bool
structure FGroup where
 env:List Ty
 alts:List FClause
structure Flat where
 groups:List FGroup
 rules:List Int
mutual
def Zg.emb:Zg→List AV
 | .mk k s a (.mk ts tl) l n g e=>[vi k,vs s,.list .none 4 (cH a),vs ts,.list .none 2 (cJ tl),.list .none 9 (cN l),vi n,vi g,.list .none 1 (Yz e)]
def cN:List Zg→List (List AV)
 | []=>[]
 | g::r=>Zg.emb g::cN r
end
theorem dl:∀ l:List Zg,cN l=l.map Zg.emb
 | []=>rfl
 | g::r=>by simp [cN,dl r]
theorem cg (l:List Zg):(cN l).length=l.length:=by rw [dl];simp
theorem cQ {l:List Zg}{i:Nat}{c:List AV}(h:(cN l)[i]?=some c):∃ t,l[i]?=some t∧c=t.emb:=by
 rw [dl,List.getElem?_map,Option.map_eq_some_iff] at h;obtain ⟨t,h1,h2⟩:=h;exact ⟨t,h1,h2.symm⟩
theorem cp (k:Int)(s:Str)(a:List Tm)(ts:Str)(tl:List Ty)(l:List Zg)(n g:Int)(e:List Int):(Zg.mk k s a (.mk ts tl) l n g e).emb=[vi k,vs s,.list .none 4 (cH a),vs ts,.list .none 2 (cJ tl),.list .none 9 (cN l),vi n,vi g,.list .none 1 (Yz e)]:=rfl
def Zg.kids:Zg→List Zg
 | .mk _ _ _ _ l _ _ _=>l
theorem dB {M:Zg→Prop}(h:∀ k s a t l n g e,(∀ x∈l,M x)→M (.mk k s a t l n g e)):∀ x,M x
 | .mk k s a t l n g e=>h k s a t l n g e (go l)
 where go:∀ l:List Zg,∀ t∈l,M t
 | [],_,ht=>absurd ht (by simp)
 | a::r,t,ht=>(List.mem_cons.1 ht).elim (fun e=>e ▸ dB h a) (fun hr=>go r t hr)
def FClause.emb (c:FClause):List AV:=[.list .none 2 (cJ c.vars),.list .none 2 (cJ c.locals),.list .none 1 (Yz c.path),vs c.name,.list .none 4 (cH c.args),.list .none 9 (cN c.goals),.list .none 1 (XA c.lasts)]
def cK (l:List FClause):List (List AV):=l.map FClause.emb
def FGroup.emb (g:FGroup):List AV:=[.list .none 2 (cJ g.env),.list .none 7 (cK g.alts)]
def cO (l:List FGroup):List (List AV):=l.map FGroup.emb
def Flat.emb (f:Flat):List AV:=[.list .none 2 (cO f.groups),.list .none 1 (Yz f.rules)]
theorem Yo {α β:Type}{f:α→β}{l:List α}{i:Nat}{c:β}(h:(l.map f)[i]?=some c):∃ t,l[i]?=some t∧c=f t:=by
 rw [List.getElem?_map,Option.map_eq_some_iff] at h;obtain ⟨t,h1,h2⟩:=h;exact ⟨t,h1,h2.symm⟩
theorem cw (l:List FClause):(cK l).length=l.length:=by simp [cK]
theorem ck (l:List FGroup):(cO l).length=l.length:=by simp [cO]
theorem cZ {l:List FClause}{i:Nat}{c:List AV}(h:(cK l)[i]?=some c):∃ t,l[i]?=some t∧c=t.emb:=Yo h
theorem cT {l:List FGroup}{i:Nat}{c:List AV}(h:(cO l)[i]?=some c):∃ t,l[i]?=some t∧c=t.emb:=Yo h
structure Pick where
 rule:Int
 alt:Int
 deriving DecidableEq
def Pick.emb (p:Pick):List AV:=[vi p.rule,vi p.alt]
def cI (l:List Pick):List (List AV):=l.map Pick.emb
theorem cB (l:List Pick):(cI l).length=l.length:=by simp [cI]
theorem dj {l:List Pick}{i:Nat}{c:List AV}(h:(cI l)[i]?=some c):∃ t,l[i]?=some t∧c=t.emb:=Yo h
structure Cls where
 any:Bool
 name:Str
 deriving DecidableEq
def Cls.emb (p:Cls):List AV:=[vb p.any,vs p.name]
def cA (l:List Cls):List (List AV):=l.map Cls.emb
theorem cS (l:List Cls):(cA l).length=l.length:=by simp [cA]
theorem du {l:List Cls}{i:Nat}{c:List AV}(h:(cA l)[i]?=some c):∃ t,l[i]?=some t∧c=t.emb:=Yo h
structure Row where
 pick:Pick
 classes:List Cls
def Row.emb (r:Row):List AV:=[vi r.pick.rule,vi r.pick.alt,.list .none 2 (cA r.classes)]
def cC (l:List Row):List (List AV):=l.map Row.emb
theorem cE (l:List Row):(cC l).length=l.length:=by simp [cC]
theorem df {l:List Row}{i:Nat}{c:List AV}(h:(cC l)[i]?=some c):∃ t,l[i]?=some t∧c=t.emb:=Yo h
mutual
inductive Tr where
 | mk (kind:Int) (picks:List Pick) (arg:Int) (any:List Tr) (cases:List Cs) (els:List Tr)
inductive Cs where
 | mk (name:Str) (t:Tr)
end
mutual
def Tr.emb:Tr→List AV
 | .mk k p a y c e=>[vi k,.list .none 2 (cI p),vi a,.list .none 6 (cD y),.list .none 7 (cP c),.list .none 6 (cD e)]
def cD:List Tr→List (List AV)
 | []=>[]
 | t::r=>Tr.emb t::cD r
def Cs.emb:Cs→List AV
 | .mk s t=>vs s::Tr.emb t
def cP:List Cs→List (List AV)
 | []=>[]
 | t::r=>Cs.emb t::cP r
end
theorem dn:∀ l:List Tr,cD l=l.map Tr.emb
 | []=>rfl
 | g::r=>by simp [cD,dn r]
theorem dv:∀ l:List Cs,cP l=l.map Cs.emb
 | []=>rfl
 | g::r=>by simp [cP,dv r]
theorem cu (l:List Tr):(cD l).length=l.length:=by rw [dn];simp
theorem cF (l:List Cs):(cP l).length=l.length:=by rw [dv];simp
theorem dc {l:List Tr}{i:Nat}{c:List AV}(h:(cD l)[i]?=some c):∃ t,l[i]?=some t∧c=t.emb:=by
 rw [dn] at h;exact Yo h
theorem da {l:List Cs}{i:Nat}{c:List AV}(h:(cP l)[i]?=some c):∃ t,l[i]?=some t∧c=t.emb:=by
 rw [dv] at h;exact Yo h
theorem cm (k:Int)(p:List Pick)(a:Int)(y:List Tr)(c:List Cs)(e:List Tr):(Tr.mk k p a y c e).emb=[vi k,.list .none 2 (cI p),vi a,.list .none 6 (cD y),.list .none 7 (cP c),.list .none 6 (cD e)]:=rfl
theorem di (s:Str)(k:Int)(p:List Pick)(a:Int)(y:List Tr)(c:List Cs)(e:List Tr):(Cs.mk s (Tr.mk k p a y c e)).emb=[vs s,vi k,.list .none 2 (cI p),vi a,.list .none 6 (cD y),.list .none 7 (cP c),.list .none 6 (cD e)]:=rfl
def Cs.name:Cs→Str
 | .mk s _=>s
def Cs.tree:Cs→Tr
 | .mk _ t=>t
theorem dU {M:Tr→Prop}(h:∀ k p a y c e,(∀ x∈y,M x)→(∀ x∈c,M x.tree)→(∀ x∈e,M x)→M (.mk k p a y c e)):∀ x,M x
 | .mk k p a y c e=>h k p a y c e (go y) (goc c) (go e)
 where
 go:∀ l:List Tr,∀ t∈l,M t
 | [],_,ht=>absurd ht (by simp)
 | a::r,t,ht=>(List.mem_cons.1 ht).elim (fun e=>e ▸ dU h a) (fun hr=>go r t hr)
 goc:∀ l:List Cs,∀ t∈l,M t.tree
 | [],_,ht=>absurd ht (by simp)
 | .mk s a::r,t,ht=>(List.mem_cons.1 ht).elim (fun e=>e ▸ dU h a) (fun hr=>goc r t hr)
end Go.Vx
end
section
set_option maxRecDepth 100000
namespace Go.Vx
open Go.Proofs
theorem Ge:(ZA Tryz.prog 64=some 9)∧(Zh Tryz.prog 9=some 1)∧(Ze Tryz.prog 9=some false)∧(Tryz.prog.underlying 64=some (.slice 9)):=by
 refine ⟨?_,?_,?_,?_⟩<;>first | trivial | kernel_rfl
theorem Bq:(True):=by
 first | trivial | kernel_rfl
def bZ (l:List Str)(x:Str)(n:Int):Prop:=(∃ i:Nat,l[i]?=some x∧n=i)∨(x ∉ l∧n=-1)
theorem I5 (l:List Str)(x:Str)(rt:Rt)(s:Nat)(hs:s=1∨l=[])(σ:Store):Zj Tryz.prog 252 [.list rt s (Tk l),vs x] σ (fun r σ'=>∃ n,bZ l x n∧r=.ret (vi n)∧σ'=σ):=by
 refine Zj.ok (by kernel_rfl) (fun hok=>?_)
 have hl:=(hok _ List.mem_cons_self).len
 rw [List.length_map] at hl
 clear hok
 refine Zc [] [] Tryz.func252 rfl (by kernel_rfl) ?_;rw [Tryz.ntmps252,Tryz.results252]
 try simp only [go_sem,seval,Ge]
 refine Zv (mu:=[]) (dr:=[]) [4,5,8,9,10,11,12,13,14,15,16,17,18] (fun i:Nat=>[(8,vi i)]) (fun i=>σ) (fun i=>i≤l.length∧∀ j:Nat,j<i→l[j]?≠some x) (fun i=>l.length-i) 0 (by kernel_rfl) ⟨by omega,fun j hj=>by omega⟩ ⟨.refl _,trivial⟩ (.refl _) ?_
 rintro i ⟨hi,hb⟩
 try simp only [go_sem,seval,Ge,List.length_map]
 refine ⟨fun h1=>⟨?_,by omega,h1,fun e he=>?_⟩,fun h1=>?_⟩
 ·rcases hs with hs | hs
  ·rw [hs]
  ·rw [hs] at h1;simp at h1;omega
 ·rw [Int.toNat_natCast,List.getElem?_map,Option.map_eq_some_iff] at he
  obtain ⟨e,he,rfl⟩:=he
  try simp only [go_sem,seval,Ge]
  refine ⟨fun h2=>?_,fun h2=>?_⟩
  ·subst h2
   exact .mk (.refl _) (.refl _) ⟨_,.inl ⟨i,he,rfl⟩,rfl,rfl⟩
  ·have hw64:IntKind.i64.wrap ((i:Int)+1)=((i+1:Nat):Int):=Zp (by omega) (by omega)
   rw [hw64]
   refine .mk (i+1) ⟨by omega,fun j hj=>?_⟩ (by omega) ⟨.refl _,trivial⟩ ?_ (.refl _)
   ·by_cases e2:j=i
    ·rw [e2,he];intro hh;injection hh with hh;exact h2 hh.symm
    ·exact hb j (by omega)
   ·repeat refine Zf.put rfl ?_
    exact ig
 ·refine .mk (.refl _) (.refl _) ⟨_,.inr ⟨fun hm=>?_,rfl⟩,rfl,rfl⟩
  obtain ⟨j,hj,hx⟩:=List.getElem_of_mem hm
  exact hb j (by omega) (by rw [← hx];exact List.getElem?_eq_getElem hj)
instance decMemStr (x:Str) (l:List Str):Decidable (x∈l):=decidable_of_iff (l.any (fun y=>decide (x=y))=true) (by simp)
theorem Z5 (l:List Str)(x:Str)(rt:Rt)(s:Nat)(hs:s=1∨l=[]):Pur Tryz.prog 212 [.list rt s (Tk l),vs x] (vb (decide (x∈l))):=by
 intro σ
 refine Zc [] [] Tryz.func212 rfl (by kernel_rfl) ?_;rw [Tryz.ntmps212,Tryz.results212]
 try simp only [go_sem,seval,Bq]
 refine (I5 l x rt s hs σ).mono ?_
 rintro r _ ⟨n,hn,rfl,rfl⟩
 try simp only [go_sem,seval,Bq]
 refine ZC ?_
 rcases hn with ⟨i,hi,rfl⟩ | ⟨hn,rfl⟩
 ·have:x∈l:=List.mem_of_getElem? hi
  simp [this]
 ·simp [hn]
end Go.Vx
end
