/- Part Q15 of the proof of treeCaughtProved: the walk of the program on abstract values, and the plain law. -/
import Derived.Test.YtmedmnondjmleaaGreatQ14
set_option linter.unusedVariables false
set_option linter.unusedSimpArgs false
section
set_option maxRecDepth 100000
namespace Go.Vx
open Go.Proofs
/-- What IndexFunc says. -/
def IdxR (b:Nat→Bool)(n:Nat)(St:Nat→Store):ARes→Store→Prop:=fun r σ' =>
  (∃ i:Nat,i<n∧b i=true∧(∀ j,j<i→b j=false)∧r=.ret (vi i)∧σ'=St (i+1))∨((∀ j,j<n→b j=false)∧r=.ret (vi (-1))∧σ'=St n)
/-- What ContainsFunc says. -/
def ConR (b:Nat→Bool)(n:Nat)(St:Nat→Store):ARes→Store→Prop:=fun r σ' =>
  (∃ i:Nat,i<n∧b i=true∧(∀ j,j<i→b j=false)∧r=.ret (vb true)∧σ'=St (i+1))∨((∀ j,j<n→b j=false)∧r=.ret (vb false)∧σ'=St n)
theorem tb207:(elOf Tryz.prog 126=some 150)∧(szOf Tryz.prog 150=some 2)∧(aggOf Tryz.prog 150=some true)∧(Tryz.prog.underlying 126=some (.slice 150)):=by
  refine ⟨?_,?_,?_,?_⟩<;>first | trivial | kernel_rfl
theorem indexFunc_Ty (f:Value)(rt:Rt)(s:Nat)(es:List (List AV))(St:Nat→Store)(b:Nat→Bool)(hs:s=2∨es=[])(hlen:∀ (i:Nat) (e:List AV),es[i]?=some e→e.length=2)
    (hf:∀ (i:Nat) (e:List AV),es[i]?=some e→(∀ j,j<i→b j=false)→AInvoke Tryz.prog (.val f) [.agg e] (St i) (fun r σ'=>r=.ret (vb (b i))∧σ'=St (i+1))) :
    ACalls Tryz.prog 207 [.list rt s es,.val f] (St 0) (IdxR b es.length St):=by
  refine ACalls.ok (by kernel_rfl) (fun hok=>?_)
  have hl:=(hok _ List.mem_cons_self).len
  clear hok
  refine acalls_of [] [] Tryz.func207 rfl (by kernel_rfl) ?_;rw [Tryz.ntmps207,Tryz.results207]
  try simp only [go_sem,seval,tb207]
  refine aloopT (mu:=[]) (dr:=[]) [4,5,8,9,10,11,12,13,14,15,16,17,18] (fun i:Nat=>[(8,vi i)]) (fun i=>St i) (fun i=>i≤es.length∧∀ j,j<i→b j=false) (fun i=>es.length-i) 0 (by kernel_rfl) ⟨by omega,fun j hj=>by omega⟩ ⟨.refl _,trivial⟩ (.refl _) ?_
  rintro i ⟨hi,hb⟩
  try simp only [go_sem,seval,tb207]
  refine ⟨fun h1=>⟨?_,by omega,h1,fun e he=>?_⟩,fun h1=>?_⟩
  · rcases hs with hs | hs
    · rw [hs]
    · rw [hs] at h1;simp at h1;omega
  · rw [Int.toNat_natCast] at he
    have he2:=hlen i e he
    have hta:List.take 2 e=e:=List.take_of_length_le (by omega)
    try simp only [go_sem,seval,tb207,he2,hta]
    refine (hf i e he hb).mono ?_
    rintro r _ ⟨rfl,rfl⟩
    try simp only [go_sem,seval,tb207]
    cases hbi:b i with
    | true =>
      try simp only [go_sem,seval,tb207]
      exact .mk (.refl _) (.refl _) (.inl ⟨i,by omega,hbi,hb,rfl,rfl⟩)
    | false =>
      try simp only [go_sem,seval,tb207]
      have hw64:IntKind.i64.wrap ((i:Int)+1)=((i+1:Nat):Int):=wrap64 (by omega) (by omega)
      rw [hw64]
      refine .mk (i+1) ⟨by omega,fun j hj=>?_⟩ (by omega) ⟨.refl _,trivial⟩ ?_ (.refl _)
      · by_cases e:j=i
        · rw [e];exact hbi
        · exact hb j (by omega)
      · repeat refine Keeps.put rfl ?_
        exact Keeps.turn _ rfl
  · have hi2:i=es.length:=by omega
    subst hi2
    exact .mk (.refl _) (.refl _) (.inr ⟨hb,rfl,rfl⟩)
theorem tb162:(True):=by
  first | trivial | kernel_rfl
theorem containsFunc_Ty (f:Value)(rt:Rt)(s:Nat)(es:List (List AV))(St:Nat→Store)(b:Nat→Bool)(hs:s=2∨es=[])(hlen:∀ (i:Nat) (e:List AV),es[i]?=some e→e.length=2)
    (hf:∀ (i:Nat) (e:List AV),es[i]?=some e→(∀ j,j<i→b j=false)→AInvoke Tryz.prog (.val f) [.agg e] (St i) (fun r σ'=>r=.ret (vb (b i))∧σ'=St (i+1))) :
    ACalls Tryz.prog 162 [.list rt s es,.val f] (St 0) (ConR b es.length St):=by
  refine acalls_of [] [] Tryz.func162 rfl (by kernel_rfl) ?_;rw [Tryz.ntmps162,Tryz.results162]
  try simp only [go_sem,seval,tb162]
  refine (indexFunc_Ty f rt s es St b hs hlen hf).mono ?_
  rintro r σ' (⟨i,hi,hb,hn,rfl,rfl⟩ | ⟨hn,rfl,rfl⟩)
  · try simp only [go_sem,seval,tb162]
    exact .mk (.refl _) (.refl _) (.inl ⟨i,hi,hb,hn,by simp,rfl⟩)
  · try simp only [go_sem,seval,tb162]
    exact .mk (.refl _) (.refl _) (.inr ⟨hn,rfl,rfl⟩)
theorem tb98:(elOf Tryz.prog 33=some 52)∧(szOf Tryz.prog 52=some 4)∧(aggOf Tryz.prog 52=some true)∧(Tryz.prog.underlying 33=some (.slice 52)):=by
  refine ⟨?_,?_,?_,?_⟩<;>first | trivial | kernel_rfl
theorem indexFunc_Tm (f:Value)(rt:Rt)(s:Nat)(es:List (List AV))(St:Nat→Store)(b:Nat→Bool)(hs:s=4∨es=[])(hlen:∀ (i:Nat) (e:List AV),es[i]?=some e→e.length=4)
    (hf:∀ (i:Nat) (e:List AV),es[i]?=some e→(∀ j,j<i→b j=false)→AInvoke Tryz.prog (.val f) [.agg e] (St i) (fun r σ'=>r=.ret (vb (b i))∧σ'=St (i+1))) :
    ACalls Tryz.prog 98 [.list rt s es,.val f] (St 0) (IdxR b es.length St):=by
  refine ACalls.ok (by kernel_rfl) (fun hok=>?_)
  have hl:=(hok _ List.mem_cons_self).len
  clear hok
  refine acalls_of [] [] Tryz.func98 rfl (by kernel_rfl) ?_;rw [Tryz.ntmps98,Tryz.results98]
  try simp only [go_sem,seval,tb98]
  refine aloopT (mu:=[]) (dr:=[]) [4,5,8,9,10,11,12,13,14,15,16,17,18] (fun i:Nat=>[(8,vi i)]) (fun i=>St i) (fun i=>i≤es.length∧∀ j,j<i→b j=false) (fun i=>es.length-i) 0 (by kernel_rfl) ⟨by omega,fun j hj=>by omega⟩ ⟨.refl _,trivial⟩ (.refl _) ?_
  rintro i ⟨hi,hb⟩
  try simp only [go_sem,seval,tb98]
  refine ⟨fun h1=>⟨?_,by omega,h1,fun e he=>?_⟩,fun h1=>?_⟩
  · rcases hs with hs | hs
    · rw [hs]
    · rw [hs] at h1;simp at h1;omega
  · rw [Int.toNat_natCast] at he
    have he2:=hlen i e he
    have hta:List.take 4 e=e:=List.take_of_length_le (by omega)
    try simp only [go_sem,seval,tb98,he2,hta]
    refine (hf i e he hb).mono ?_
    rintro r _ ⟨rfl,rfl⟩
    try simp only [go_sem,seval,tb98]
    cases hbi:b i with
    | true =>
      try simp only [go_sem,seval,tb98]
      exact .mk (.refl _) (.refl _) (.inl ⟨i,by omega,hbi,hb,rfl,rfl⟩)
    | false =>
      try simp only [go_sem,seval,tb98]
      have hw64:IntKind.i64.wrap ((i:Int)+1)=((i+1:Nat):Int):=wrap64 (by omega) (by omega)
      rw [hw64]
      refine .mk (i+1) ⟨by omega,fun j hj=>?_⟩ (by omega) ⟨.refl _,trivial⟩ ?_ (.refl _)
      · by_cases e:j=i
        · rw [e];exact hbi
        · exact hb j (by omega)
      · repeat refine Keeps.put rfl ?_
        exact Keeps.turn _ rfl
  · have hi2:i=es.length:=by omega
    subst hi2
    exact .mk (.refl _) (.refl _) (.inr ⟨hb,rfl,rfl⟩)
theorem tb58:(True):=by
  first | trivial | kernel_rfl
theorem containsFunc_Tm (f:Value)(rt:Rt)(s:Nat)(es:List (List AV))(St:Nat→Store)(b:Nat→Bool)(hs:s=4∨es=[])(hlen:∀ (i:Nat) (e:List AV),es[i]?=some e→e.length=4)
    (hf:∀ (i:Nat) (e:List AV),es[i]?=some e→(∀ j,j<i→b j=false)→AInvoke Tryz.prog (.val f) [.agg e] (St i) (fun r σ'=>r=.ret (vb (b i))∧σ'=St (i+1))) :
    ACalls Tryz.prog 58 [.list rt s es,.val f] (St 0) (ConR b es.length St):=by
  refine acalls_of [] [] Tryz.func58 rfl (by kernel_rfl) ?_;rw [Tryz.ntmps58,Tryz.results58]
  try simp only [go_sem,seval,tb58]
  refine (indexFunc_Tm f rt s es St b hs hlen hf).mono ?_
  rintro r σ' (⟨i,hi,hb,hn,rfl,rfl⟩ | ⟨hn,rfl,rfl⟩)
  · try simp only [go_sem,seval,tb58]
    exact .mk (.refl _) (.refl _) (.inl ⟨i,hi,hb,hn,by simp,rfl⟩)
  · try simp only [go_sem,seval,tb58]
    exact .mk (.refl _) (.refl _) (.inr ⟨hn,rfl,rfl⟩)
theorem tb186:(elOf Tryz.prog 27=some 30)∧(szOf Tryz.prog 30=some 6)∧(aggOf Tryz.prog 30=some true)∧(Tryz.prog.underlying 27=some (.slice 30)):=by
  refine ⟨?_,?_,?_,?_⟩<;>first | trivial | kernel_rfl
theorem indexFunc_Tree (f:Value)(rt:Rt)(s:Nat)(es:List (List AV))(St:Nat→Store)(b:Nat→Bool)(hs:s=6∨es=[])(hlen:∀ (i:Nat) (e:List AV),es[i]?=some e→e.length=6)
    (hf:∀ (i:Nat) (e:List AV),es[i]?=some e→(∀ j,j<i→b j=false)→AInvoke Tryz.prog (.val f) [.agg e] (St i) (fun r σ'=>r=.ret (vb (b i))∧σ'=St (i+1))) :
    ACalls Tryz.prog 186 [.list rt s es,.val f] (St 0) (IdxR b es.length St):=by
  refine ACalls.ok (by kernel_rfl) (fun hok=>?_)
  have hl:=(hok _ List.mem_cons_self).len
  clear hok
  refine acalls_of [] [] Tryz.func186 rfl (by kernel_rfl) ?_;rw [Tryz.ntmps186,Tryz.results186]
  try simp only [go_sem,seval,tb186]
  refine aloopT (mu:=[]) (dr:=[]) [4,5,8,9,10,11,12,13,14,15,16,17,18] (fun i:Nat=>[(8,vi i)]) (fun i=>St i) (fun i=>i≤es.length∧∀ j,j<i→b j=false) (fun i=>es.length-i) 0 (by kernel_rfl) ⟨by omega,fun j hj=>by omega⟩ ⟨.refl _,trivial⟩ (.refl _) ?_
  rintro i ⟨hi,hb⟩
  try simp only [go_sem,seval,tb186]
  refine ⟨fun h1=>⟨?_,by omega,h1,fun e he=>?_⟩,fun h1=>?_⟩
  · rcases hs with hs | hs
    · rw [hs]
    · rw [hs] at h1;simp at h1;omega
  · rw [Int.toNat_natCast] at he
    have he2:=hlen i e he
    have hta:List.take 6 e=e:=List.take_of_length_le (by omega)
    try simp only [go_sem,seval,tb186,he2,hta]
    refine (hf i e he hb).mono ?_
    rintro r _ ⟨rfl,rfl⟩
    try simp only [go_sem,seval,tb186]
    cases hbi:b i with
    | true =>
      try simp only [go_sem,seval,tb186]
      exact .mk (.refl _) (.refl _) (.inl ⟨i,by omega,hbi,hb,rfl,rfl⟩)
    | false =>
      try simp only [go_sem,seval,tb186]
      have hw64:IntKind.i64.wrap ((i:Int)+1)=((i+1:Nat):Int):=wrap64 (by omega) (by omega)
      rw [hw64]
      refine .mk (i+1) ⟨by omega,fun j hj=>?_⟩ (by omega) ⟨.refl _,trivial⟩ ?_ (.refl _)
      · by_cases e:j=i
        · rw [e];exact hbi
        · exact hb j (by omega)
      · repeat refine Keeps.put rfl ?_
        exact Keeps.turn _ rfl
  · have hi2:i=es.length:=by omega
    subst hi2
    exact .mk (.refl _) (.refl _) (.inr ⟨hb,rfl,rfl⟩)
theorem tb144:(True):=by
  first | trivial | kernel_rfl
theorem containsFunc_Tree (f:Value)(rt:Rt)(s:Nat)(es:List (List AV))(St:Nat→Store)(b:Nat→Bool)(hs:s=6∨es=[])(hlen:∀ (i:Nat) (e:List AV),es[i]?=some e→e.length=6)
    (hf:∀ (i:Nat) (e:List AV),es[i]?=some e→(∀ j,j<i→b j=false)→AInvoke Tryz.prog (.val f) [.agg e] (St i) (fun r σ'=>r=.ret (vb (b i))∧σ'=St (i+1))) :
    ACalls Tryz.prog 144 [.list rt s es,.val f] (St 0) (ConR b es.length St):=by
  refine acalls_of [] [] Tryz.func144 rfl (by kernel_rfl) ?_;rw [Tryz.ntmps144,Tryz.results144]
  try simp only [go_sem,seval,tb144]
  refine (indexFunc_Tree f rt s es St b hs hlen hf).mono ?_
  rintro r σ' (⟨i,hi,hb,hn,rfl,rfl⟩ | ⟨hn,rfl,rfl⟩)
  · try simp only [go_sem,seval,tb144]
    exact .mk (.refl _) (.refl _) (.inl ⟨i,hi,hb,hn,by simp,rfl⟩)
  · try simp only [go_sem,seval,tb144]
    exact .mk (.refl _) (.refl _) (.inr ⟨hn,rfl,rfl⟩)
theorem tb63:(elOf Tryz.prog 28=some 114)∧(szOf Tryz.prog 114=some 7)∧(aggOf Tryz.prog 114=some true)∧(Tryz.prog.underlying 28=some (.slice 114)):=by
  refine ⟨?_,?_,?_,?_⟩<;>first | trivial | kernel_rfl
theorem indexFunc_Case (f:Value)(rt:Rt)(s:Nat)(es:List (List AV))(St:Nat→Store)(b:Nat→Bool)(hs:s=7∨es=[])(hlen:∀ (i:Nat) (e:List AV),es[i]?=some e→e.length=7)
    (hf:∀ (i:Nat) (e:List AV),es[i]?=some e→(∀ j,j<i→b j=false)→AInvoke Tryz.prog (.val f) [.agg e] (St i) (fun r σ'=>r=.ret (vb (b i))∧σ'=St (i+1))) :
    ACalls Tryz.prog 63 [.list rt s es,.val f] (St 0) (IdxR b es.length St):=by
  refine ACalls.ok (by kernel_rfl) (fun hok=>?_)
  have hl:=(hok _ List.mem_cons_self).len
  clear hok
  refine acalls_of [] [] Tryz.func63 rfl (by kernel_rfl) ?_;rw [Tryz.ntmps63,Tryz.results63]
  try simp only [go_sem,seval,tb63]
  refine aloopT (mu:=[]) (dr:=[]) [4,5,8,9,10,11,12,13,14,15,16,17,18] (fun i:Nat=>[(8,vi i)]) (fun i=>St i) (fun i=>i≤es.length∧∀ j,j<i→b j=false) (fun i=>es.length-i) 0 (by kernel_rfl) ⟨by omega,fun j hj=>by omega⟩ ⟨.refl _,trivial⟩ (.refl _) ?_
  rintro i ⟨hi,hb⟩
  try simp only [go_sem,seval,tb63]
  refine ⟨fun h1=>⟨?_,by omega,h1,fun e he=>?_⟩,fun h1=>?_⟩
  · rcases hs with hs | hs
    · rw [hs]
    · rw [hs] at h1;simp at h1;omega
  · rw [Int.toNat_natCast] at he
    have he2:=hlen i e he
    have hta:List.take 7 e=e:=List.take_of_length_le (by omega)
    try simp only [go_sem,seval,tb63,he2,hta]
    refine (hf i e he hb).mono ?_
    rintro r _ ⟨rfl,rfl⟩
    try simp only [go_sem,seval,tb63]
    cases hbi:b i with
    | true =>
      try simp only [go_sem,seval,tb63]
      exact .mk (.refl _) (.refl _) (.inl ⟨i,by omega,hbi,hb,rfl,rfl⟩)
    | false =>
      try simp only [go_sem,seval,tb63]
      have hw64:IntKind.i64.wrap ((i:Int)+1)=((i+1:Nat):Int):=wrap64 (by omega) (by omega)
      rw [hw64]
      refine .mk (i+1) ⟨by omega,fun j hj=>?_⟩ (by omega) ⟨.refl _,trivial⟩ ?_ (.refl _)
      · by_cases e:j=i
        · rw [e];exact hbi
        · exact hb j (by omega)
      · repeat refine Keeps.put rfl ?_
        exact Keeps.turn _ rfl
  · have hi2:i=es.length:=by omega
    subst hi2
    exact .mk (.refl _) (.refl _) (.inr ⟨hb,rfl,rfl⟩)
theorem tb114:(True):=by
  first | trivial | kernel_rfl
theorem containsFunc_Case (f:Value)(rt:Rt)(s:Nat)(es:List (List AV))(St:Nat→Store)(b:Nat→Bool)(hs:s=7∨es=[])(hlen:∀ (i:Nat) (e:List AV),es[i]?=some e→e.length=7)
    (hf:∀ (i:Nat) (e:List AV),es[i]?=some e→(∀ j,j<i→b j=false)→AInvoke Tryz.prog (.val f) [.agg e] (St i) (fun r σ'=>r=.ret (vb (b i))∧σ'=St (i+1))) :
    ACalls Tryz.prog 114 [.list rt s es,.val f] (St 0) (ConR b es.length St):=by
  refine acalls_of [] [] Tryz.func114 rfl (by kernel_rfl) ?_;rw [Tryz.ntmps114,Tryz.results114]
  try simp only [go_sem,seval,tb114]
  refine (indexFunc_Case f rt s es St b hs hlen hf).mono ?_
  rintro r σ' (⟨i,hi,hb,hn,rfl,rfl⟩ | ⟨hn,rfl,rfl⟩)
  · try simp only [go_sem,seval,tb114]
    exact .mk (.refl _) (.refl _) (.inl ⟨i,hi,hb,hn,by simp,rfl⟩)
  · try simp only [go_sem,seval,tb114]
    exact .mk (.refl _) (.refl _) (.inr ⟨hn,rfl,rfl⟩)
theorem tb73:(elOf Tryz.prog 99=some 110)∧(szOf Tryz.prog 110=some 3)∧(aggOf Tryz.prog 110=some true)∧(Tryz.prog.underlying 99=some (.slice 110)):=by
  refine ⟨?_,?_,?_,?_⟩<;>first | trivial | kernel_rfl
theorem indexFunc_Row (f:Value)(rt:Rt)(s:Nat)(es:List (List AV))(St:Nat→Store)(b:Nat→Bool)(hs:s=3∨es=[])(hlen:∀ (i:Nat) (e:List AV),es[i]?=some e→e.length=3)
    (hf:∀ (i:Nat) (e:List AV),es[i]?=some e→(∀ j,j<i→b j=false)→AInvoke Tryz.prog (.val f) [.agg e] (St i) (fun r σ'=>r=.ret (vb (b i))∧σ'=St (i+1))) :
    ACalls Tryz.prog 73 [.list rt s es,.val f] (St 0) (IdxR b es.length St):=by
  refine ACalls.ok (by kernel_rfl) (fun hok=>?_)
  have hl:=(hok _ List.mem_cons_self).len
  clear hok
  refine acalls_of [] [] Tryz.func73 rfl (by kernel_rfl) ?_;rw [Tryz.ntmps73,Tryz.results73]
  try simp only [go_sem,seval,tb73]
  refine aloopT (mu:=[]) (dr:=[]) [4,5,8,9,10,11,12,13,14,15,16,17,18] (fun i:Nat=>[(8,vi i)]) (fun i=>St i) (fun i=>i≤es.length∧∀ j,j<i→b j=false) (fun i=>es.length-i) 0 (by kernel_rfl) ⟨by omega,fun j hj=>by omega⟩ ⟨.refl _,trivial⟩ (.refl _) ?_
  rintro i ⟨hi,hb⟩
  try simp only [go_sem,seval,tb73]
  refine ⟨fun h1=>⟨?_,by omega,h1,fun e he=>?_⟩,fun h1=>?_⟩
  · rcases hs with hs | hs
    · rw [hs]
    · rw [hs] at h1;simp at h1;omega
  · rw [Int.toNat_natCast] at he
    have he2:=hlen i e he
    have hta:List.take 3 e=e:=List.take_of_length_le (by omega)
    try simp only [go_sem,seval,tb73,he2,hta]
    refine (hf i e he hb).mono ?_
    rintro r _ ⟨rfl,rfl⟩
    try simp only [go_sem,seval,tb73]
    cases hbi:b i with
    | true =>
      try simp only [go_sem,seval,tb73]
      exact .mk (.refl _) (.refl _) (.inl ⟨i,by omega,hbi,hb,rfl,rfl⟩)
    | false =>
      try simp only [go_sem,seval,tb73]
      have hw64:IntKind.i64.wrap ((i:Int)+1)=((i+1:Nat):Int):=wrap64 (by omega) (by omega)
      rw [hw64]
      refine .mk (i+1) ⟨by omega,fun j hj=>?_⟩ (by omega) ⟨.refl _,trivial⟩ ?_ (.refl _)
      · by_cases e:j=i
        · rw [e];exact hbi
        · exact hb j (by omega)
      · repeat refine Keeps.put rfl ?_
        exact Keeps.turn _ rfl
  · have hi2:i=es.length:=by omega
    subst hi2
    exact .mk (.refl _) (.refl _) (.inr ⟨hb,rfl,rfl⟩)
theorem tb108:(True):=by
  first | trivial | kernel_rfl
theorem containsFunc_Row (f:Value)(rt:Rt)(s:Nat)(es:List (List AV))(St:Nat→Store)(b:Nat→Bool)(hs:s=3∨es=[])(hlen:∀ (i:Nat) (e:List AV),es[i]?=some e→e.length=3)
    (hf:∀ (i:Nat) (e:List AV),es[i]?=some e→(∀ j,j<i→b j=false)→AInvoke Tryz.prog (.val f) [.agg e] (St i) (fun r σ'=>r=.ret (vb (b i))∧σ'=St (i+1))) :
    ACalls Tryz.prog 108 [.list rt s es,.val f] (St 0) (ConR b es.length St):=by
  refine acalls_of [] [] Tryz.func108 rfl (by kernel_rfl) ?_;rw [Tryz.ntmps108,Tryz.results108]
  try simp only [go_sem,seval,tb108]
  refine (indexFunc_Row f rt s es St b hs hlen hf).mono ?_
  rintro r σ' (⟨i,hi,hb,hn,rfl,rfl⟩ | ⟨hn,rfl,rfl⟩)
  · try simp only [go_sem,seval,tb108]
    exact .mk (.refl _) (.refl _) (.inl ⟨i,hi,hb,hn,by simp,rfl⟩)
  · try simp only [go_sem,seval,tb108]
    exact .mk (.refl _) (.refl _) (.inr ⟨hn,rfl,rfl⟩)
theorem tb146:(elOf Tryz.prog 108=some 107)∧(szOf Tryz.prog 107=some 2)∧(aggOf Tryz.prog 107=some true)∧(Tryz.prog.underlying 108=some (.slice 107)):=by
  refine ⟨?_,?_,?_,?_⟩<;>first | trivial | kernel_rfl
theorem indexFunc_Class (f:Value)(rt:Rt)(s:Nat)(es:List (List AV))(St:Nat→Store)(b:Nat→Bool)(hs:s=2∨es=[])(hlen:∀ (i:Nat) (e:List AV),es[i]?=some e→e.length=2)
    (hf:∀ (i:Nat) (e:List AV),es[i]?=some e→(∀ j,j<i→b j=false)→AInvoke Tryz.prog (.val f) [.agg e] (St i) (fun r σ'=>r=.ret (vb (b i))∧σ'=St (i+1))) :
    ACalls Tryz.prog 146 [.list rt s es,.val f] (St 0) (IdxR b es.length St):=by
  refine ACalls.ok (by kernel_rfl) (fun hok=>?_)
  have hl:=(hok _ List.mem_cons_self).len
  clear hok
  refine acalls_of [] [] Tryz.func146 rfl (by kernel_rfl) ?_;rw [Tryz.ntmps146,Tryz.results146]
  try simp only [go_sem,seval,tb146]
  refine aloopT (mu:=[]) (dr:=[]) [4,5,8,9,10,11,12,13,14,15,16,17,18] (fun i:Nat=>[(8,vi i)]) (fun i=>St i) (fun i=>i≤es.length∧∀ j,j<i→b j=false) (fun i=>es.length-i) 0 (by kernel_rfl) ⟨by omega,fun j hj=>by omega⟩ ⟨.refl _,trivial⟩ (.refl _) ?_
  rintro i ⟨hi,hb⟩
  try simp only [go_sem,seval,tb146]
  refine ⟨fun h1=>⟨?_,by omega,h1,fun e he=>?_⟩,fun h1=>?_⟩
  · rcases hs with hs | hs
    · rw [hs]
    · rw [hs] at h1;simp at h1;omega
  · rw [Int.toNat_natCast] at he
    have he2:=hlen i e he
    have hta:List.take 2 e=e:=List.take_of_length_le (by omega)
    try simp only [go_sem,seval,tb146,he2,hta]
    refine (hf i e he hb).mono ?_
    rintro r _ ⟨rfl,rfl⟩
    try simp only [go_sem,seval,tb146]
    cases hbi:b i with
    | true =>
      try simp only [go_sem,seval,tb146]
      exact .mk (.refl _) (.refl _) (.inl ⟨i,by omega,hbi,hb,rfl,rfl⟩)
    | false =>
      try simp only [go_sem,seval,tb146]
      have hw64:IntKind.i64.wrap ((i:Int)+1)=((i+1:Nat):Int):=wrap64 (by omega) (by omega)
      rw [hw64]
      refine .mk (i+1) ⟨by omega,fun j hj=>?_⟩ (by omega) ⟨.refl _,trivial⟩ ?_ (.refl _)
      · by_cases e:j=i
        · rw [e];exact hbi
        · exact hb j (by omega)
      · repeat refine Keeps.put rfl ?_
        exact Keeps.turn _ rfl
  · have hi2:i=es.length:=by omega
    subst hi2
    exact .mk (.refl _) (.refl _) (.inr ⟨hb,rfl,rfl⟩)
theorem tb110:(True):=by
  first | trivial | kernel_rfl
theorem containsFunc_Class (f:Value)(rt:Rt)(s:Nat)(es:List (List AV))(St:Nat→Store)(b:Nat→Bool)(hs:s=2∨es=[])(hlen:∀ (i:Nat) (e:List AV),es[i]?=some e→e.length=2)
    (hf:∀ (i:Nat) (e:List AV),es[i]?=some e→(∀ j,j<i→b j=false)→AInvoke Tryz.prog (.val f) [.agg e] (St i) (fun r σ'=>r=.ret (vb (b i))∧σ'=St (i+1))) :
    ACalls Tryz.prog 110 [.list rt s es,.val f] (St 0) (ConR b es.length St):=by
  refine acalls_of [] [] Tryz.func110 rfl (by kernel_rfl) ?_;rw [Tryz.ntmps110,Tryz.results110]
  try simp only [go_sem,seval,tb110]
  refine (indexFunc_Class f rt s es St b hs hlen hf).mono ?_
  rintro r σ' (⟨i,hi,hb,hn,rfl,rfl⟩ | ⟨hn,rfl,rfl⟩)
  · try simp only [go_sem,seval,tb110]
    exact .mk (.refl _) (.refl _) (.inl ⟨i,hi,hb,hn,by simp,rfl⟩)
  · try simp only [go_sem,seval,tb110]
    exact .mk (.refl _) (.refl _) (.inr ⟨hn,rfl,rfl⟩)
theorem tb256:(elOf Tryz.prog 23=some 3)∧(szOf Tryz.prog 3=some 1)∧(aggOf Tryz.prog 3=some false)∧(Tryz.prog.underlying 23=some (.slice 3)):=by
  refine ⟨?_,?_,?_,?_⟩<;>first | trivial | kernel_rfl
theorem indexFunc_Int (f:Value)(rt:Rt)(s:Nat)(es:List AV)(St:Nat→Store)(b:Nat→Bool)(hs:s=1∨es=[])
    (hf:∀ (i:Nat) (e:AV),es[i]?=some e→(∀ j,j<i→b j=false)→AInvoke Tryz.prog (.val f) [e] (St i) (fun r σ'=>r=.ret (vb (b i))∧σ'=St (i+1))) :
    ACalls Tryz.prog 256 [.list rt s (es.map fun x=>[x]),.val f] (St 0) (IdxR b es.length St):=by
  refine ACalls.ok (by kernel_rfl) (fun hok=>?_)
  have hl:=(hok _ List.mem_cons_self).len
  rw [List.length_map] at hl
  clear hok
  refine acalls_of [] [] Tryz.func256 rfl (by kernel_rfl) ?_;rw [Tryz.ntmps256,Tryz.results256]
  try simp only [go_sem,seval,tb256]
  refine aloopT (mu:=[]) (dr:=[]) [4,5,8,9,10,11,12,13,14,15,16,17,18] (fun i:Nat=>[(8,vi i)]) (fun i=>St i) (fun i=>i≤es.length∧∀ j,j<i→b j=false) (fun i=>es.length-i) 0 (by kernel_rfl) ⟨by omega,fun j hj=>by omega⟩ ⟨.refl _,trivial⟩ (.refl _) ?_
  rintro i ⟨hi,hb⟩
  try simp only [go_sem,seval,tb256,List.length_map]
  refine ⟨fun h1=>⟨?_,by omega,h1,fun e he=>?_⟩,fun h1=>?_⟩
  · rcases hs with hs | hs
    · rw [hs]
    · rw [hs] at h1;simp at h1;omega
  · rw [Int.toNat_natCast] at he
    rw [List.getElem?_map,Option.map_eq_some_iff] at he
    obtain ⟨e,he,rfl⟩:=he
    try simp only [go_sem,seval,tb256]
    refine (hf i e he hb).mono ?_
    rintro r _ ⟨rfl,rfl⟩
    try simp only [go_sem,seval,tb256]
    cases hbi:b i with
    | true =>
      try simp only [go_sem,seval,tb256]
      exact .mk (.refl _) (.refl _) (.inl ⟨i,by omega,hbi,hb,rfl,rfl⟩)
    | false =>
      try simp only [go_sem,seval,tb256]
      have hw64:IntKind.i64.wrap ((i:Int)+1)=((i+1:Nat):Int):=wrap64 (by omega) (by omega)
      rw [hw64]
      refine .mk (i+1) ⟨by omega,fun j hj=>?_⟩ (by omega) ⟨.refl _,trivial⟩ ?_ (.refl _)
      · by_cases e:j=i
        · rw [e];exact hbi
        · exact hb j (by omega)
      · repeat refine Keeps.put rfl ?_
        exact Keeps.turn _ rfl
  · have hi2:i=es.length:=by omega
    subst hi2
    exact .mk (.refl _) (.refl _) (.inr ⟨hb,rfl,rfl⟩)
theorem tb217:(True):=by
  first | trivial | kernel_rfl
theorem containsFunc_Int (f:Value)(rt:Rt)(s:Nat)(es:List AV)(St:Nat→Store)(b:Nat→Bool)(hs:s=1∨es=[])
    (hf:∀ (i:Nat) (e:AV),es[i]?=some e→(∀ j,j<i→b j=false)→AInvoke Tryz.prog (.val f) [e] (St i) (fun r σ'=>r=.ret (vb (b i))∧σ'=St (i+1))) :
    ACalls Tryz.prog 217 [.list rt s (es.map fun x=>[x]),.val f] (St 0) (ConR b es.length St):=by
  refine acalls_of [] [] Tryz.func217 rfl (by kernel_rfl) ?_;rw [Tryz.ntmps217,Tryz.results217]
  try simp only [go_sem,seval,tb217]
  refine (indexFunc_Int f rt s es St b hs hf).mono ?_
  rintro r σ' (⟨i,hi,hb,hn,rfl,rfl⟩ | ⟨hn,rfl,rfl⟩)
  · try simp only [go_sem,seval,tb217]
    exact .mk (.refl _) (.refl _) (.inl ⟨i,hi,hb,hn,by simp,rfl⟩)
  · try simp only [go_sem,seval,tb217]
    exact .mk (.refl _) (.refl _) (.inr ⟨hn,rfl,rfl⟩)
theorem tb223:(elOf Tryz.prog 184=some 23)∧(szOf Tryz.prog 23=some 1)∧(aggOf Tryz.prog 23=some false)∧(Tryz.prog.underlying 184=some (.slice 23)):=by
  refine ⟨?_,?_,?_,?_⟩<;>first | trivial | kernel_rfl
theorem indexFunc_Ints (f:Value)(rt:Rt)(s:Nat)(es:List AV)(St:Nat→Store)(b:Nat→Bool)(hs:s=1∨es=[])
    (hf:∀ (i:Nat) (e:AV),es[i]?=some e→(∀ j,j<i→b j=false)→AInvoke Tryz.prog (.val f) [e] (St i) (fun r σ'=>r=.ret (vb (b i))∧σ'=St (i+1))) :
    ACalls Tryz.prog 223 [.list rt s (es.map fun x=>[x]),.val f] (St 0) (IdxR b es.length St):=by
  refine ACalls.ok (by kernel_rfl) (fun hok=>?_)
  have hl:=(hok _ List.mem_cons_self).len
  rw [List.length_map] at hl
  clear hok
  refine acalls_of [] [] Tryz.func223 rfl (by kernel_rfl) ?_;rw [Tryz.ntmps223,Tryz.results223]
  try simp only [go_sem,seval,tb223]
  refine aloopT (mu:=[]) (dr:=[]) [4,5,8,9,10,11,12,13,14,15,16,17,18] (fun i:Nat=>[(8,vi i)]) (fun i=>St i) (fun i=>i≤es.length∧∀ j,j<i→b j=false) (fun i=>es.length-i) 0 (by kernel_rfl) ⟨by omega,fun j hj=>by omega⟩ ⟨.refl _,trivial⟩ (.refl _) ?_
  rintro i ⟨hi,hb⟩
  try simp only [go_sem,seval,tb223,List.length_map]
  refine ⟨fun h1=>⟨?_,by omega,h1,fun e he=>?_⟩,fun h1=>?_⟩
  · rcases hs with hs | hs
    · rw [hs]
    · rw [hs] at h1;simp at h1;omega
  · rw [Int.toNat_natCast] at he
    rw [List.getElem?_map,Option.map_eq_some_iff] at he
    obtain ⟨e,he,rfl⟩:=he
    try simp only [go_sem,seval,tb223]
    refine (hf i e he hb).mono ?_
    rintro r _ ⟨rfl,rfl⟩
    try simp only [go_sem,seval,tb223]
    cases hbi:b i with
    | true =>
      try simp only [go_sem,seval,tb223]
      exact .mk (.refl _) (.refl _) (.inl ⟨i,by omega,hbi,hb,rfl,rfl⟩)
    | false =>
      try simp only [go_sem,seval,tb223]
      have hw64:IntKind.i64.wrap ((i:Int)+1)=((i+1:Nat):Int):=wrap64 (by omega) (by omega)
      rw [hw64]
      refine .mk (i+1) ⟨by omega,fun j hj=>?_⟩ (by omega) ⟨.refl _,trivial⟩ ?_ (.refl _)
      · by_cases e:j=i
        · rw [e];exact hbi
        · exact hb j (by omega)
      · repeat refine Keeps.put rfl ?_
        exact Keeps.turn _ rfl
  · have hi2:i=es.length:=by omega
    subst hi2
    exact .mk (.refl _) (.refl _) (.inr ⟨hb,rfl,rfl⟩)
theorem tb169:(True):=by
  first | trivial | kernel_rfl
theorem containsFunc_Ints (f:Value)(rt:Rt)(s:Nat)(es:List AV)(St:Nat→Store)(b:Nat→Bool)(hs:s=1∨es=[])
    (hf:∀ (i:Nat) (e:AV),es[i]?=some e→(∀ j,j<i→b j=false)→AInvoke Tryz.prog (.val f) [e] (St i) (fun r σ'=>r=.ret (vb (b i))∧σ'=St (i+1))) :
    ACalls Tryz.prog 169 [.list rt s (es.map fun x=>[x]),.val f] (St 0) (ConR b es.length St):=by
  refine acalls_of [] [] Tryz.func169 rfl (by kernel_rfl) ?_;rw [Tryz.ntmps169,Tryz.results169]
  try simp only [go_sem,seval,tb169]
  refine (indexFunc_Ints f rt s es St b hs hf).mono ?_
  rintro r σ' (⟨i,hi,hb,hn,rfl,rfl⟩ | ⟨hn,rfl,rfl⟩)
  · try simp only [go_sem,seval,tb169]
    exact .mk (.refl _) (.refl _) (.inl ⟨i,hi,hb,hn,by simp,rfl⟩)
  · try simp only [go_sem,seval,tb169]
    exact .mk (.refl _) (.refl _) (.inr ⟨hn,rfl,rfl⟩)
end Go.Vx
end
section
namespace Go.Vx
abbrev strs (l:List Str):List (List AV):=l.map fun s=>[.val (.string s)]
abbrev ints (l:List Int):List (List AV):=l.map fun n=>[vi n]
abbrev bools (l:List Bool):List (List AV):=l.map fun b=>[vb b]
inductive FGoal where
  | mk (kind:Int) (name:Str) (args:List Tm) (ty:Ty) (l:List FGoal) (n group:Int) (env:List Int)
structure FClause where
  vars:List Ty
  locals:List Ty
  path:List Int
  name:Str
  args:List Tm
  goals:List FGoal
  lasts:List Bool
structure FGroup where
  env:List Ty
  alts:List FClause
structure Flat where
  groups:List FGroup
  rules:List Int
mutual
def FGoal.emb:FGoal→List AV
  | .mk k s a (.mk ts tl) l n g e=>[vi k,vs s,.list .none 4 (Tm.embs a),vs ts,.list .none 2 (Ty.embs tl),.list .none 9 (FGoal.embs l),vi n,vi g,.list .none 1 (ints e)]
def FGoal.embs:List FGoal→List (List AV)
  | []=>[]
  | g::r=>FGoal.emb g::FGoal.embs r
end
theorem FGoal.embs_eq:∀ l:List FGoal,FGoal.embs l=l.map FGoal.emb
  | []=>rfl
  | g::r=>by simp [FGoal.embs,FGoal.embs_eq r]
theorem FGoal.embs_len (l:List FGoal):(FGoal.embs l).length=l.length:=by rw [FGoal.embs_eq];simp
theorem FGoal.embs_get {l:List FGoal}{i:Nat}{c:List AV}(h:(FGoal.embs l)[i]?=some c):∃ t,l[i]?=some t∧c=t.emb:=by
  rw [FGoal.embs_eq,List.getElem?_map,Option.map_eq_some_iff] at h;obtain ⟨t,h1,h2⟩:=h;exact ⟨t,h1,h2.symm⟩
theorem FGoal.emb_mk (k:Int)(s:Str)(a:List Tm)(ts:Str)(tl:List Ty)(l:List FGoal)(n g:Int)(e:List Int):(FGoal.mk k s a (.mk ts tl) l n g e).emb=[vi k,vs s,.list .none 4 (Tm.embs a),vs ts,.list .none 2 (Ty.embs tl),.list .none 9 (FGoal.embs l),vi n,vi g,.list .none 1 (ints e)]:=rfl
def FGoal.kids:FGoal→List FGoal
  | .mk _ _ _ _ l _ _ _=>l
theorem FGoal.ind {M:FGoal→Prop}(h:∀ k s a t l n g e,(∀ x∈l,M x)→M (.mk k s a t l n g e)):∀ x,M x
  | .mk k s a t l n g e=>h k s a t l n g e (go l)
  where go:∀ l:List FGoal,∀ t∈l,M t
  | [],_,ht=>absurd ht (by simp)
  | a::r,t,ht=>(List.mem_cons.1 ht).elim (fun e=>e ▸ FGoal.ind h a) (fun hr=>go r t hr)
def FClause.emb (c:FClause):List AV:=[.list .none 2 (Ty.embs c.vars),.list .none 2 (Ty.embs c.locals),.list .none 1 (ints c.path),vs c.name,.list .none 4 (Tm.embs c.args),.list .none 9 (FGoal.embs c.goals),.list .none 1 (bools c.lasts)]
def FClause.embs (l:List FClause):List (List AV):=l.map FClause.emb
def FGroup.emb (g:FGroup):List AV:=[.list .none 2 (Ty.embs g.env),.list .none 7 (FClause.embs g.alts)]
def FGroup.embs (l:List FGroup):List (List AV):=l.map FGroup.emb
def Flat.emb (f:Flat):List AV:=[.list .none 2 (FGroup.embs f.groups),.list .none 1 (ints f.rules)]
theorem mapGet {α β:Type}{f:α→β}{l:List α}{i:Nat}{c:β}(h:(l.map f)[i]?=some c):∃ t,l[i]?=some t∧c=f t:=by
  rw [List.getElem?_map,Option.map_eq_some_iff] at h;obtain ⟨t,h1,h2⟩:=h;exact ⟨t,h1,h2.symm⟩
theorem FClause.embs_len (l:List FClause):(FClause.embs l).length=l.length:=by simp [FClause.embs]
theorem FGroup.embs_len (l:List FGroup):(FGroup.embs l).length=l.length:=by simp [FGroup.embs]
theorem FClause.embs_get {l:List FClause}{i:Nat}{c:List AV}(h:(FClause.embs l)[i]?=some c):∃ t,l[i]?=some t∧c=t.emb:=mapGet h
theorem FGroup.embs_get {l:List FGroup}{i:Nat}{c:List AV}(h:(FGroup.embs l)[i]?=some c):∃ t,l[i]?=some t∧c=t.emb:=mapGet h
structure Pick where
  rule:Int
  alt:Int
  deriving DecidableEq
def Pick.emb (p:Pick):List AV:=[vi p.rule,vi p.alt]
def Pick.embs (l:List Pick):List (List AV):=l.map Pick.emb
theorem Pick.embs_len (l:List Pick):(Pick.embs l).length=l.length:=by simp [Pick.embs]
theorem Pick.embs_get {l:List Pick}{i:Nat}{c:List AV}(h:(Pick.embs l)[i]?=some c):∃ t,l[i]?=some t∧c=t.emb:=mapGet h
structure Cls where
  any:Bool
  name:Str
  deriving DecidableEq
def Cls.emb (p:Cls):List AV:=[vb p.any,vs p.name]
def Cls.embs (l:List Cls):List (List AV):=l.map Cls.emb
theorem Cls.embs_len (l:List Cls):(Cls.embs l).length=l.length:=by simp [Cls.embs]
theorem Cls.embs_get {l:List Cls}{i:Nat}{c:List AV}(h:(Cls.embs l)[i]?=some c):∃ t,l[i]?=some t∧c=t.emb:=mapGet h
structure Row where
  pick:Pick
  classes:List Cls
def Row.emb (r:Row):List AV:=[vi r.pick.rule,vi r.pick.alt,.list .none 2 (Cls.embs r.classes)]
def Row.embs (l:List Row):List (List AV):=l.map Row.emb
theorem Row.embs_len (l:List Row):(Row.embs l).length=l.length:=by simp [Row.embs]
theorem Row.embs_get {l:List Row}{i:Nat}{c:List AV}(h:(Row.embs l)[i]?=some c):∃ t,l[i]?=some t∧c=t.emb:=mapGet h
mutual
inductive Tr where
  | mk (kind:Int) (picks:List Pick) (arg:Int) (any:List Tr) (cases:List Cs) (els:List Tr)
inductive Cs where
  | mk (name:Str) (t:Tr)
end
mutual
def Tr.emb:Tr→List AV
  | .mk k p a y c e=>[vi k,.list .none 2 (Pick.embs p),vi a,.list .none 6 (Tr.embs y),.list .none 7 (Cs.embs c),.list .none 6 (Tr.embs e)]
def Tr.embs:List Tr→List (List AV)
  | []=>[]
  | t::r=>Tr.emb t::Tr.embs r
def Cs.emb:Cs→List AV
  | .mk s t=>vs s::Tr.emb t
def Cs.embs:List Cs→List (List AV)
  | []=>[]
  | t::r=>Cs.emb t::Cs.embs r
end
theorem Tr.embs_eq:∀ l:List Tr,Tr.embs l=l.map Tr.emb
  | []=>rfl
  | g::r=>by simp [Tr.embs,Tr.embs_eq r]
theorem Cs.embs_eq:∀ l:List Cs,Cs.embs l=l.map Cs.emb
  | []=>rfl
  | g::r=>by simp [Cs.embs,Cs.embs_eq r]
theorem Tr.embs_len (l:List Tr):(Tr.embs l).length=l.length:=by rw [Tr.embs_eq];simp
theorem Cs.embs_len (l:List Cs):(Cs.embs l).length=l.length:=by rw [Cs.embs_eq];simp
theorem Tr.embs_get {l:List Tr}{i:Nat}{c:List AV}(h:(Tr.embs l)[i]?=some c):∃ t,l[i]?=some t∧c=t.emb:=by
  rw [Tr.embs_eq] at h;exact mapGet h
theorem Cs.embs_get {l:List Cs}{i:Nat}{c:List AV}(h:(Cs.embs l)[i]?=some c):∃ t,l[i]?=some t∧c=t.emb:=by
  rw [Cs.embs_eq] at h;exact mapGet h
theorem Tr.emb_mk (k:Int)(p:List Pick)(a:Int)(y:List Tr)(c:List Cs)(e:List Tr):(Tr.mk k p a y c e).emb=[vi k,.list .none 2 (Pick.embs p),vi a,.list .none 6 (Tr.embs y),.list .none 7 (Cs.embs c),.list .none 6 (Tr.embs e)]:=rfl
theorem Cs.emb_mk (s:Str)(k:Int)(p:List Pick)(a:Int)(y:List Tr)(c:List Cs)(e:List Tr):(Cs.mk s (Tr.mk k p a y c e)).emb=[vs s,vi k,.list .none 2 (Pick.embs p),vi a,.list .none 6 (Tr.embs y),.list .none 7 (Cs.embs c),.list .none 6 (Tr.embs e)]:=rfl
def Cs.name:Cs→Str
  | .mk s _=>s
def Cs.tree:Cs→Tr
  | .mk _ t=>t
theorem Tr.ind {M:Tr→Prop}(h:∀ k p a y c e,(∀ x∈y,M x)→(∀ x∈c,M x.tree)→(∀ x∈e,M x)→M (.mk k p a y c e)):∀ x,M x
  | .mk k p a y c e=>h k p a y c e (go y) (goc c) (go e)
  where
  go:∀ l:List Tr,∀ t∈l,M t
  | [],_,ht=>absurd ht (by simp)
  | a::r,t,ht=>(List.mem_cons.1 ht).elim (fun e=>e ▸ Tr.ind h a) (fun hr=>go r t hr)
  goc:∀ l:List Cs,∀ t∈l,M t.tree
  | [],_,ht=>absurd ht (by simp)
  | .mk s a::r,t,ht=>(List.mem_cons.1 ht).elim (fun e=>e ▸ Tr.ind h a) (fun hr=>goc r t hr)
end Go.Vx
end
section
set_option maxRecDepth 100000
namespace Go.Vx
open Go.Proofs
theorem tb252:(elOf Tryz.prog 64=some 9)∧(szOf Tryz.prog 9=some 1)∧(aggOf Tryz.prog 9=some false)∧(Tryz.prog.underlying 64=some (.slice 9)):=by
  refine ⟨?_,?_,?_,?_⟩<;>first | trivial | kernel_rfl
theorem tb212:(True):=by
  first | trivial | kernel_rfl
/-- The first place of a string in a list,or -1. -/
def IdxS (l:List Str)(x:Str)(n:Int):Prop:=(∃ i:Nat,l[i]?=some x∧n=i)∨(x ∉ l∧n=-1)
theorem index_str (l:List Str)(x:Str)(rt:Rt)(s:Nat)(hs:s=1∨l=[])(σ:Store):ACalls Tryz.prog 252 [.list rt s (strs l),vs x] σ (fun r σ'=>∃ n,IdxS l x n∧r=.ret (vi n)∧σ'=σ):=by
  refine ACalls.ok (by kernel_rfl) (fun hok=>?_)
  have hl:=(hok _ List.mem_cons_self).len
  rw [List.length_map] at hl
  clear hok
  refine acalls_of [] [] Tryz.func252 rfl (by kernel_rfl) ?_;rw [Tryz.ntmps252,Tryz.results252]
  try simp only [go_sem,seval,tb252]
  refine aloopT (mu:=[]) (dr:=[]) [4,5,8,9,10,11,12,13,14,15,16,17,18] (fun i:Nat=>[(8,vi i)]) (fun i=>σ) (fun i=>i≤l.length∧∀ j:Nat,j<i→l[j]?≠some x) (fun i=>l.length-i) 0 (by kernel_rfl) ⟨by omega,fun j hj=>by omega⟩ ⟨.refl _,trivial⟩ (.refl _) ?_
  rintro i ⟨hi,hb⟩
  try simp only [go_sem,seval,tb252,List.length_map]
  refine ⟨fun h1=>⟨?_,by omega,h1,fun e he=>?_⟩,fun h1=>?_⟩
  · rcases hs with hs | hs
    · rw [hs]
    · rw [hs] at h1;simp at h1;omega
  · rw [Int.toNat_natCast,List.getElem?_map,Option.map_eq_some_iff] at he
    obtain ⟨e,he,rfl⟩:=he
    try simp only [go_sem,seval,tb252]
    refine ⟨fun h2=>?_,fun h2=>?_⟩
    · subst h2
      exact .mk (.refl _) (.refl _) ⟨_,.inl ⟨i,he,rfl⟩,rfl,rfl⟩
    · have hw64:IntKind.i64.wrap ((i:Int)+1)=((i+1:Nat):Int):=wrap64 (by omega) (by omega)
      rw [hw64]
      refine .mk (i+1) ⟨by omega,fun j hj=>?_⟩ (by omega) ⟨.refl _,trivial⟩ ?_ (.refl _)
      · by_cases e2:j=i
        · rw [e2,he];intro hh;injection hh with hh;exact h2 hh.symm
        · exact hb j (by omega)
      · repeat refine Keeps.put rfl ?_
        exact Keeps.turn _ rfl
  · refine .mk (.refl _) (.refl _) ⟨_,.inr ⟨fun hm=>?_,rfl⟩,rfl,rfl⟩
    obtain ⟨j,hj,hx⟩:=List.getElem_of_mem hm
    exact hb j (by omega) (by rw [← hx];exact List.getElem?_eq_getElem hj)
instance decMemStr (x:Str) (l:List Str):Decidable (x∈l):=decidable_of_iff (l.any (fun y=>decide (x=y))=true) (by simp)
theorem contains_str (l:List Str)(x:Str)(rt:Rt)(s:Nat)(hs:s=1∨l=[]):Pur Tryz.prog 212 [.list rt s (strs l),vs x] (vb (decide (x∈l))):=by
  intro σ
  refine acalls_of [] [] Tryz.func212 rfl (by kernel_rfl) ?_;rw [Tryz.ntmps212,Tryz.results212]
  try simp only [go_sem,seval,tb212]
  refine (index_str l x rt s hs σ).mono ?_
  rintro r _ ⟨n,hn,rfl,rfl⟩
  try simp only [go_sem,seval,tb212]
  refine fin_b ?_
  rcases hn with ⟨i,hi,rfl⟩ | ⟨hn,rfl⟩
  · have:x∈l:=List.mem_of_getElem? hi
    simp [this]
  · simp [hn]
end Go.Vx
end
