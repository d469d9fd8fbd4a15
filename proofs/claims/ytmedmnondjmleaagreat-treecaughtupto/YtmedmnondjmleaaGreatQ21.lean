/- Part Q21 of the proof of treeCaughtProved: the walk of the program on abstract values, and the plain law. -/
import Derived.Test.YtmedmnondjmleaaGreatQ19
import Derived.Test.YtmedmnondjmleaaGreatQ20
import Derived.Test.YtmedmnondjmleaaGreatQ16
set_option linter.unusedVariables false
set_option linter.unusedSimpArgs false
section
set_option maxRecDepth 100000
namespace Go.Vx
open Go.Proofs
theorem tb105:(fOff Tryz.prog 52 0=some 0)∧(szOf Tryz.prog 3=some 1)∧(aggOf Tryz.prog 3=some false)∧(fOff Tryz.prog 52 1=some 1)∧(fOff Tryz.prog 52 2=some 2)∧(szOf Tryz.prog 9=some 1)∧(aggOf Tryz.prog 9=some false)∧(fOff Tryz.prog 52 3=some 3)∧(szOf Tryz.prog 33=some 1)∧(aggOf Tryz.prog 33=some false)∧(Tryz.prog.underlying 33=some (.slice 52)):=by
  refine ⟨?_,?_,?_,?_,?_,?_,?_,?_,?_,?_,?_⟩<;>first | trivial | kernel_rfl
theorem tb60:(szOf Tryz.prog 52=some 4)∧(aggOf Tryz.prog 52=some true):=by
  refine ⟨?_,?_⟩<;>first | trivial | kernel_rfl
theorem tb102:(zeroOf Tryz.prog 165=some .nilFunc)∧(szOf Tryz.prog 165=some 1)∧(aggOf Tryz.prog 165=some false)∧(szOf Tryz.prog 52=some 4)∧(aggOf Tryz.prog 52=some true):=by
  refine ⟨?_,?_,?_,?_,?_⟩<;>first | trivial | kernel_rfl
theorem tb103:(szOf Tryz.prog 52=some 4)∧(aggOf Tryz.prog 52=some true)∧(fOff Tryz.prog 52 3=some 3)∧(szOf Tryz.prog 33=some 1)∧(aggOf Tryz.prog 33=some false)∧(elOf Tryz.prog 33=some 52)∧(zeroOf Tryz.prog 52=some (.agg #[(.int .i64 0),(.int .i64 0),(.string ⟨#[]⟩),(.slice none 0 0)]))∧(szOf Tryz.prog 165=some 1)∧(aggOf Tryz.prog 165=some false)∧(Tryz.prog.underlying 33=some (.slice 52)):=by
  refine ⟨?_,?_,?_,?_,?_,?_,?_,?_,?_,?_⟩<;>first | trivial | kernel_rfl
theorem tb257:(szOf Tryz.prog 52=some 4)∧(aggOf Tryz.prog 52=some true)∧(fOff Tryz.prog 52 0=some 0)∧(szOf Tryz.prog 3=some 1)∧(aggOf Tryz.prog 3=some false)∧(fOff Tryz.prog 52 3=some 3)∧(szOf Tryz.prog 33=some 1)∧(aggOf Tryz.prog 33=some false)∧(elOf Tryz.prog 33=some 52)∧(zeroOf Tryz.prog 52=some (.agg #[(.int .i64 0),(.int .i64 0),(.string ⟨#[]⟩),(.slice none 0 0)]))∧(Tryz.prog.underlying 33=some (.slice 52)):=by
  refine ⟨?_,?_,?_,?_,?_,?_,?_,?_,?_,?_,?_⟩<;>first | trivial | kernel_rfl
theorem tb219:(szOf Tryz.prog 52=some 4)∧(aggOf Tryz.prog 52=some true)∧(zeroOf Tryz.prog 4=some (.bool false))∧(szOf Tryz.prog 4=some 1)∧(aggOf Tryz.prog 4=some false):=by
  refine ⟨?_,?_,?_,?_,?_⟩<;>first | trivial | kernel_rfl
theorem tb258:(szOf Tryz.prog 4=some 1)∧(aggOf Tryz.prog 4=some false)∧(fOff Tryz.prog 52 0=some 0)∧(szOf Tryz.prog 3=some 1)∧(aggOf Tryz.prog 3=some false)∧(fOff Tryz.prog 52 1=some 1):=by
  refine ⟨?_,?_,?_,?_,?_,?_⟩<;>first | trivial | kernel_rfl
abbrev isName (s:Str):Bool:=isTokB 1 s
abbrev emptyS:Str:={ data:=#[] }
def nodeB (k n:Int)(s:Str)(len:Nat):Bool :=
  if k=1 then decide (n=0)&&isName s&&decide (len≤8)
  else if k=2∨k=3∨k=4 then decide (0≤n)&&decide (n≤100000)&&decide (s=emptyS)&&decide (len≤8)
  else decide (k=5)&&decide (n=0)&&decide (s=emptyS)&&decide (len=1)
theorem node_c (k n:Int)(s:Str)(l:List Tm):Pur Tryz.prog 105 [.agg (Tm.mk k n s l).emb] (vb (nodeB k n s l.length)):=by
  intro σ
  have hl8:((l.length:Int)≤8)=(l.length≤8):=by simp only [eq_iff_iff];omega
  have hl1:((l.length:Int)=1)=(l.length=1):=by simp only [eq_iff_iff];omega
  simp only [Tm.emb_mk]
  refine acalls_of [] [] Tryz.func105 rfl (by kernel_rfl) ?_;rw [Tryz.ntmps105,Tryz.results105]
  by_cases k1:k=1
  · subst k1
    have hd:nodeB 1 n s l.length=(decide (n=0)&&isTokB 1 s&&decide (l.length≤8)):=by simp [nodeB]
    rw [hd]
    try simp only [go_sem,seval,tb105,Tm.embs_len,hl8]
    refine ⟨fun h=>?_,fun h=>?_⟩
    · refine (isName_c s).use ?_
      cases isTokB 1 s with
      | true =>
        try simp only [go_sem,seval,tb105,Tm.embs_len,hl8]
        exact fin_b (by simp [h])
      | false =>
        try simp only [go_sem,seval,tb105,Tm.embs_len,hl8]
        exact fin_b (by simp)
    · exact fin_b (by simp [h])
  · by_cases k2:k=2∨k=3∨k=4
    · have hd:nodeB k n s l.length=(decide (0≤n)&&decide (n≤100000)&&decide (s=emptyS)&&decide (l.length≤8)):=by simp [nodeB,k1,k2]
      rw [hd]
      rcases k2 with rfl | rfl | rfl
      · try simp only [go_sem,seval,tb105,Tm.embs_len,hl8]
        refine ⟨fun h=>⟨fun h2=>⟨fun h3=>fin_b ?_,fun h3=>fin_b ?_⟩,fun h2=>fin_b ?_⟩,fun h=>fin_b ?_⟩<;>(try simp_all)<;>(try (intros;omega))
      · try simp only [go_sem,seval,tb105,Tm.embs_len,hl8]
        refine ⟨fun h=>⟨fun h2=>⟨fun h3=>fin_b ?_,fun h3=>fin_b ?_⟩,fun h2=>fin_b ?_⟩,fun h=>fin_b ?_⟩<;>(try simp_all)<;>(try (intros;omega))
      · try simp only [go_sem,seval,tb105,Tm.embs_len,hl8]
        refine ⟨fun h=>⟨fun h2=>⟨fun h3=>fin_b ?_,fun h3=>fin_b ?_⟩,fun h2=>fin_b ?_⟩,fun h=>fin_b ?_⟩<;>(try simp_all)<;>(try (intros;omega))
    · have hd:nodeB k n s l.length=(decide (k=5)&&decide (n=0)&&decide (s=emptyS)&&decide (l.length=1)):=by simp [nodeB,k1,k2]
      rw [hd]
      have a2:¬ k=2:=fun h=>k2 (.inl h)
      have a3:¬ k=3:=fun h=>k2 (.inr (.inl h))
      have a4:¬ k=4:=fun h=>k2 (.inr (.inr h))
      try simp only [go_sem,seval,tb105,Tm.embs_len,hl1,k1,a2,a3,a4,decide_false]
      refine ⟨fun h=>⟨fun h2=>⟨fun h3=>fin_b ?_,fun h3=>fin_b ?_⟩,fun h2=>fin_b ?_⟩,fun h=>fin_b ?_⟩<;>(try simp_all)<;>(try (intros;omega))
mutual
def rawT:Tm→Bool
  | .mk k n s l=>nodeB k n s l.length&&rawTs l
def rawTs:List Tm→Bool
  | []=>true
  | t::r=>rawT t&&rawTs r
end
theorem rawTs_app (l m:List Tm):rawTs (l++m)=(rawTs l&&rawTs m):=by
  induction l with
  | nil=>rfl
  | cons a r ih=>simp only [List.cons_append,rawTs,ih,Bool.and_assoc]
def rawV (bw:Nat):Value:=.func (.func 103) #[] #[.pointer (some ⟨bw,0,none⟩)]
theorem rawwalk_c (bw:Nat):∀ (t:Tm) (σ:Store),σ.get bw=some (.cells [.val (rawV bw)]) →
    ACalls Tryz.prog 103 [.agg t.emb,.val (.pointer (some ⟨bw,0,none⟩))] σ (fun r σ'=>σ'=σ∧r=if rawT t then .ret (.tup []) else .pan (termFault 6)):=by
  intro t
  induction t using Tm.ind with | h k n s l ih=>?_
  intro σ gw
  have hnode:=node_c k n s l
  refine ACalls.ok (by kernel_rfl) (fun hok=>?_)
  have hlen:=(((hok _ List.mem_cons_self).agg (c:=.list .none 4 (Tm.embs l)) (by simp [Tm.emb_mk])).len)
  rw [Tm.embs_len] at hlen
  clear hok
  simp only [Tm.emb_mk] at hnode ⊢
  refine acalls_of [] [] Tryz.func103 rfl (by kernel_rfl) ?_;rw [Tryz.ntmps103,Tryz.results103]
  try simp only [go_sem,seval,tb103]
  refine hnode.use ?_
  try simp only [go_sem,seval,tb103]
  refine must_use (fun hm=>?_) (fun hm=>?_)
  · try simp only [go_sem,seval,tb103]
    refine aloopT (mu:=[]) (dr:=[]) [4,11,12,13,14,15,16,17,18] (fun i:Nat=>[(11,vi i)]) (fun _=>σ) (fun i=>i≤l.length∧rawTs (l.take i)=true) (fun i=>l.length-i) 0 (by kernel_rfl) ⟨by omega,by simp [rawTs]⟩ ⟨.refl _,trivial⟩ (.refl _) ?_
    rintro i ⟨hi,hr⟩
    try simp only [go_sem,seval,tb103,Tm.embs_len]
    refine ⟨fun hi2=>⟨by omega,hi2,fun c hc=>?_⟩,fun hi2=>?_⟩
    · rw [Int.toNat_natCast] at hc
      obtain ⟨a,ha,rfl⟩:=Tm.embs_get hc
      have iha:=ih a (List.mem_of_getElem? ha) σ gw
      obtain ⟨ka,na,sa,la⟩:=a
      try simp only [go_sem,seval,tb103,Tm.emb_mk]
      intro b9 hb9
      try simp only [go_sem,seval,tb103,Tm.emb_mk,hb9,gw,rawV]
      refine (iha.sub (.cons _ _)).mono ?_
      have hsp:=split_at ha
      rintro r σ' ⟨h1,h2⟩
      rw [h1,h2]
      cases hw:rawT (Tm.mk ka na sa la) with
      | true =>
        try simp only [go_sem,seval,tb103]
        rw [show IntKind.i64.wrap ((i:Int)+1)=((i+1:Nat):Int) from wrap64 (by omega) (by omega)]
        refine .mk (i+1) ⟨by omega,?_⟩ (by omega) ⟨.refl _,trivial⟩ (by repeat first | exact Keeps.turn _ rfl | refine Keeps.put rfl ?_) (.refl _)
        rw [List.take_add_one,ha,Option.toList_some,rawTs_app,hr];simp [rawTs,hw]
      | false =>
        try simp only [go_sem,seval,tb103]
        refine .mk (.refl _) ⟨rfl,?_⟩
        have:rawT (.mk k n s l)=false:=by rw [rawT,hsp,rawTs_app];simp [rawTs,hw]
        rw [this];rfl
    · have hil:l.take i=l:=List.take_of_length_le (by omega)
      rw [hil] at hr
      refine .mk (.refl _) (.refl _) ⟨rfl,?_⟩
      rw [rawT,hr,hm];rfl
  · try simp only [go_sem,seval,tb103]
    refine .mk (.refl _) ⟨rfl,?_⟩
    rw [rawT,hm];rfl
def rawE (t:Tm):Int:=if sizedE t.shape≠0 then sizedE t.shape else if rawT t=true then 0 else 6
theorem raw_c (t:Tm):Pur Tryz.prog 60 [.agg t.emb] (vi (rawE t)):=by
  intro σ
  have hsz:=sized_c_Tm t
  have hw:=fun bw=>rawwalk_c bw t
  have hd:rawE t=if sizedE t.shape≠0 then sizedE t.shape else if rawT t=true then 0 else 6:=rfl
  rw [hd]
  generalize sizedE t.shape=e at hsz ⊢
  generalize rawT t=rt at hw ⊢
  obtain ⟨k,n,s,l⟩:=t
  simp only [Tm.emb_mk] at hsz hw ⊢
  refine acalls_of [1] [] Tryz.func60 rfl (by kernel_rfl) ?_;rw [Tryz.ntmps60,Tryz.results60]
  try simp only [go_sem,seval,tb60]
  intro b1 hb1
  try simp only [go_sem,seval,tb60,hb1]
  refine hsz.use ?_
  try simp only [go_sem,seval,tb60,hb1]
  refine ⟨fun q=>?_,fun q=>?_⟩
  · rw [if_pos q]
    exact fin_pur (.refl _) (.cons _ _)
  · rw [if_neg (not_not_intro q)]
    refine guarded_c _ _ _ (fun b hb=>?_)
    rw [inv_of]
    have g1:Store.get ((b,AObj.cells [vi 0])::(b1,.cells [vi k,vi n,vs s,.list .none 4 (Tm.embs l)])::σ) b1=some (.cells [vi k,vi n,vs s,.list .none 4 (Tm.embs l)]):=by rw [get_fresh hb (by rw [get_same];rfl),get_same]
    have hk:∀ S:Store,S.get b1=some (.cells [vi k,vi n,vs s,.list .none 4 (Tm.embs l)])→ACalls Tryz.prog 102 [.val (.pointer (some ⟨b1,0,none⟩))] S (fun r σ'=>σ'=S∧r=if rt then .ret (.tup []) else .pan (termFault 6)):=by
      intro S gS
      refine acalls_of [] [] Tryz.func102 rfl (by kernel_rfl) ?_;rw [Tryz.ntmps102,Tryz.results102]
      try simp only [go_sem,seval,tb102]
      intro bw hbw
      try simp only [go_sem,seval,tb102,hbw,gS]
      refine (hw bw _ (by rw [get_same];rfl)).mono ?_
      rintro r σ' ⟨h1,h2⟩
      rw [h1,h2]
      cases rt with
      | true =>
        try simp only [go_sem,seval,tb102]
        exact .mk (.refl _) (.cons _ _) ⟨rfl,rfl⟩
      | false =>
        try simp only [go_sem,seval,tb102]
        exact .mk (.cons _ _) ⟨rfl,rfl⟩
    refine (hk _ g1).mono ?_
    rintro r σ' ⟨h1,h2⟩
    refine ⟨_,h1,?_⟩
    rw [h2]
    cases rt with
    | true =>
      try simp only [go_sem,seval,tb60]
      exact fin_pur (.refl _) (.cons _ _)
    | false =>
      refine ⟨6,rfl,?_⟩
      try simp only [go_sem,seval,tb60]
      exact fin_pur (.refl _) (.cons _ _)
/-! ### each -/
mutual
def nodesB:Tm→Int→List (Tm×Int)
  | .mk k n s l,b=>(.mk k n s l,b)::nodesBs l (if k=5 then IntKind.i64.wrap (b+1) else b)
def nodesBs:List Tm→Int→List (Tm×Int)
  | [],_=>[]
  | t::r,b=>nodesB t b++nodesBs r b
end
theorem nodesBs_app (l m:List Tm)(b:Int):nodesBs (l++m) b=nodesBs l b++nodesBs m b:=by
  induction l with
  | nil=>rfl
  | cons a r ih=>simp only [List.cons_append,nodesBs,ih,List.append_assoc]
theorem each_r (f:Value)(Pp:Nat→Store→Prop):∀ (t:Tm) (b:Int) (i0:Nat) (S:Store),Pp i0 S→(∀ (j:Nat) (p:Tm×Int) (S:Store),(nodesB t b)[j]?=some p→Pp (i0+j) S→AInvoke Tryz.prog (.val f) [.agg p.1.emb,vi p.2] S (fun r σ'=>r=.ret (.tup [])∧Pp (i0+j+1) σ')) →
    ACalls Tryz.prog 257 [.agg t.emb,vi b,.val f] S (fun r σ'=>r=.ret (.tup [])∧Pp (i0+(nodesB t b).length) σ'):=by
  intro t
  induction t using Tm.ind with | h k n s l ih=>?_
  intro b i0 S hP hf
  refine ACalls.ok (by kernel_rfl) (fun hok=>?_)
  have hlen:=(((hok _ List.mem_cons_self).agg (c:=.list .none 4 (Tm.embs l)) (by simp [Tm.emb_mk])).len)
  rw [Tm.embs_len] at hlen
  clear hok
  have hf0:=hf 0 _ S (by rw [nodesB];rfl) hP
  simp only [Tm.emb_mk,Nat.add_zero] at hf0 ⊢
  refine acalls_of [] [] Tryz.func257 rfl (by kernel_rfl) ?_;rw [Tryz.ntmps257,Tryz.results257]
  try simp only [go_sem,seval,tb257]
  refine hf0.mono ?_
  rintro r S1 ⟨h1,hP1⟩
  rw [h1]
  obtain ⟨b',hb'⟩:∃ b':Int,b'=if k=5 then IntKind.i64.wrap (b+1) else b:=⟨_,rfl⟩
  have hfl:∀ (j:Nat) (p:Tm×Int) (S:Store),(nodesBs l b')[j]?=some p→Pp (i0+1+j) S→AInvoke Tryz.prog (.val f) [.agg p.1.emb,vi p.2] S (fun r σ'=>r=.ret (.tup [])∧Pp (i0+1+j+1) σ'):=by
    intro j p S hj hS
    have:=hf (j+1) p S (by rw [nodesB,← hb'];simpa using hj) (by rw [show i0+(j+1)=i0+1+j by omega];exact hS)
    rw [show i0+1+j=i0+(j+1) by omega]
    exact this
  have hn:(nodesB (.mk k n s l) b).length=1+(nodesBs l b').length:=by rw [nodesB,← hb',List.length_cons];omega
  rw [hn]
  try simp only [go_sem,seval,tb257]
  refine ⟨fun hk=>?_,fun hk=>?_⟩
  · rw [if_pos hk] at hb'
    rw [← hb']
    refine aloopT (mu:=[]) (dr:=[]) [7,20,21,22,23,24,25,26,27,28] (fun x:Nat×Store=>[(20,vi x.1)]) (fun x=>x.2) (fun x=>x.1≤l.length∧Pp (i0+1+(nodesBs (l.take x.1) b').length) x.2) (fun x=>l.length-x.1) (0,S1) (by kernel_rfl) ⟨by simp,hP1⟩ ⟨.refl _,trivial⟩ (.refl _) ?_
    rintro ⟨i,S⟩ ⟨hi,hPi⟩
    dsimp only at hi hPi
    try simp only [go_sem,seval,tb257,Tm.embs_len]
    refine ⟨fun hi2=>⟨by omega,hi2,fun c hc=>?_⟩,fun hi2=>?_⟩
    · rw [Int.toNat_natCast] at hc
      obtain ⟨a,ha,rfl⟩:=Tm.embs_get hc
      have hsp:=split_at ha
      have iha:=ih a (List.mem_of_getElem? ha) b' (i0+1+(nodesBs (l.take i) b').length) S hPi (fun j p S hj hS=>by
        have:=hfl ((nodesBs (l.take i) b').length+j) p S (by
          have hjl:=(List.getElem?_eq_some_iff.1 hj).1
          have e:nodesBs l b'=nodesBs (l.take i) b'++nodesBs (a::l.drop (i+1)) b':=by rw [← nodesBs_app,← hsp]
          rw [e,List.getElem?_append_right (by omega),Nat.add_sub_cancel_left,nodesBs,List.getElem?_append_left hjl]
          exact hj) (by rw [← Nat.add_assoc];exact hS)
        rw [show i0+1+(nodesBs (l.take i) b').length+j=i0+1+((nodesBs (l.take i) b').length+j) by omega]
        exact this)
      have hnx:(nodesBs (l.take (i+1)) b').length=(nodesBs (l.take i) b').length+(nodesB a b').length:=by rw [List.take_add_one,ha,Option.toList_some,nodesBs_app];simp [nodesBs]
      obtain ⟨ka,na,sa,la⟩:=a
      try simp only [go_sem,seval,tb257,Tm.emb_mk]
      intro b9 hb9
      try simp only [go_sem,seval,tb257,Tm.emb_mk]
      refine (iha.sub (.cons _ _)).mono ?_
      rintro r S2 ⟨h1,h2⟩
      rw [h1]
      try simp only [go_sem,seval,tb257]
      rw [show IntKind.i64.wrap ((i:Int)+1)=((i+1:Nat):Int) from wrap64 (by omega) (by omega)]
      refine .mk (i+1,S2) ⟨by dsimp only;omega,?_⟩ (by dsimp only;omega) ⟨.refl _,trivial⟩ (by repeat first | exact Keeps.turn _ rfl | refine Keeps.put rfl ?_) (.refl _)
      dsimp only
      rw [hnx,← Nat.add_assoc]
      exact h2
    · have hil:l.take i=l:=List.take_of_length_le (by omega)
      rw [hil] at hPi
      exact .mk (.refl _) (.refl _) ⟨rfl,by rw [← Nat.add_assoc];exact hPi⟩
  · rw [if_neg hk] at hb'
    subst hb'
    refine aloopT (mu:=[]) (dr:=[]) [7,20,21,22,23,24,25,26,27,28] (fun x:Nat×Store=>[(20,vi x.1)]) (fun x=>x.2) (fun x=>x.1≤l.length∧Pp (i0+1+(nodesBs (l.take x.1) b').length) x.2) (fun x=>l.length-x.1) (0,S1) (by kernel_rfl) ⟨by simp,hP1⟩ ⟨.refl _,trivial⟩ (.refl _) ?_
    rintro ⟨i,S⟩ ⟨hi,hPi⟩
    dsimp only at hi hPi
    try simp only [go_sem,seval,tb257,Tm.embs_len]
    refine ⟨fun hi2=>⟨by omega,hi2,fun c hc=>?_⟩,fun hi2=>?_⟩
    · rw [Int.toNat_natCast] at hc
      obtain ⟨a,ha,rfl⟩:=Tm.embs_get hc
      have hsp:=split_at ha
      have iha:=ih a (List.mem_of_getElem? ha) b' (i0+1+(nodesBs (l.take i) b').length) S hPi (fun j p S hj hS=>by
        have:=hfl ((nodesBs (l.take i) b').length+j) p S (by
          have hjl:=(List.getElem?_eq_some_iff.1 hj).1
          have e:nodesBs l b'=nodesBs (l.take i) b'++nodesBs (a::l.drop (i+1)) b':=by rw [← nodesBs_app,← hsp]
          rw [e,List.getElem?_append_right (by omega),Nat.add_sub_cancel_left,nodesBs,List.getElem?_append_left hjl]
          exact hj) (by rw [← Nat.add_assoc];exact hS)
        rw [show i0+1+(nodesBs (l.take i) b').length+j=i0+1+((nodesBs (l.take i) b').length+j) by omega]
        exact this)
      have hnx:(nodesBs (l.take (i+1)) b').length=(nodesBs (l.take i) b').length+(nodesB a b').length:=by rw [List.take_add_one,ha,Option.toList_some,nodesBs_app];simp [nodesBs]
      obtain ⟨ka,na,sa,la⟩:=a
      try simp only [go_sem,seval,tb257,Tm.emb_mk]
      intro b9 hb9
      try simp only [go_sem,seval,tb257,Tm.emb_mk]
      refine (iha.sub (.cons _ _)).mono ?_
      rintro r S2 ⟨h1,h2⟩
      rw [h1]
      try simp only [go_sem,seval,tb257]
      rw [show IntKind.i64.wrap ((i:Int)+1)=((i+1:Nat):Int) from wrap64 (by omega) (by omega)]
      refine .mk (i+1,S2) ⟨by dsimp only;omega,?_⟩ (by dsimp only;omega) ⟨.refl _,trivial⟩ (by repeat first | exact Keeps.turn _ rfl | refine Keeps.put rfl ?_) (.refl _)
      dsimp only
      rw [hnx,← Nat.add_assoc]
      exact h2
    · have hil:l.take i=l:=List.take_of_length_le (by omega)
      rw [hil] at hPi
      exact .mk (.refl _) (.refl _) ⟨rfl,by rw [← Nat.add_assoc];exact hPi⟩
theorem each_c (f:Value)(St:Nat→Store)(t:Tm)(b:Int)(i0:Nat)(hf:∀ (j:Nat) (p:Tm×Int),(nodesB t b)[j]?=some p→AInvoke Tryz.prog (.val f) [.agg p.1.emb,vi p.2] (St (i0+j)) (fun r σ'=>r=.ret (.tup [])∧σ'=St (i0+j+1))) :
    ACalls Tryz.prog 257 [.agg t.emb,vi b,.val f] (St i0) (fun r σ'=>r=.ret (.tup [])∧σ'=St (i0+(nodesB t b).length)) :=
  each_r f (fun i S=>S=St i) t b i0 (St i0) rfl (fun j p S hj hS=>by rw [hS];exact hf j p hj)
def closedT (t:Tm):Bool:=decide (rawE t=0)&&(nodesB t 0).all (fun p=>match p.1 with | .mk k n _ _=>!decide (k=2) || decide (n<p.2))
def closedN (l:List (Tm×Int)):Bool:=l.all (fun p=>match p.1 with | .mk k n _ _=>!decide (k=2) || decide (n<p.2))
theorem closed_c (t:Tm):Pur Tryz.prog 219 [.agg t.emb] (vb (closedT t)):=by
  intro σ
  have hr:=raw_c t
  have hn:=fun b St=>each_c (.func (.func 258) #[] #[.pointer (some ⟨b,0,none⟩)]) St t 0 0
  have hd:closedT t=(decide (rawE t=0)&&closedN (nodesB t 0)):=rfl
  rw [hd]
  generalize rawE t=e at hr ⊢
  generalize nodesB t 0=L at hn ⊢
  obtain ⟨k,n,s,l⟩:=t
  simp only [Tm.emb_mk] at hr hn ⊢
  refine acalls_of [] [] Tryz.func219 rfl (by kernel_rfl) ?_;rw [Tryz.ntmps219,Tryz.results219]
  try simp only [go_sem,seval,tb219]
  refine hr.use ?_
  try simp only [go_sem,seval,tb219]
  refine ⟨fun q=>fin_b (by simp [q]),fun q=>?_⟩
  intro b hb
  try simp only [go_sem,seval,tb219]
  refine (hn b (fun i=>(b,.cells [vb (closedN (L.take i))])::σ) (fun j p hj=>?_)).mono ?_
  · rw [inv_of,Nat.zero_add]
    obtain ⟨⟨k',n',s',l'⟩,c⟩:=p
    simp only [Tm.emb_mk]
    have hnx:closedN (L.take (j+1))=(closedN (L.take j)&&(!decide (k'=2) || decide (n'<c))):=by rw [List.take_add_one,hj];simp [closedN]
    rw [hnx]
    cases hc:closedN (L.take j) with
    | true =>
      refine acalls_of [] [] Tryz.func258 rfl (by kernel_rfl) ?_;rw [Tryz.ntmps258,Tryz.results258]
      try simp only [go_sem,seval,tb258]
      refine ⟨fun h1=>?_,fun h1=>?_⟩
      · try simp only [go_sem,seval,tb258,h1]
        refine .mk (.refl _) (.refl _) ⟨rfl,?_⟩
        by_cases k2:k'=2<;>simp_all
      · try simp only [go_sem,seval,tb258]
        refine .mk (.refl _) (.refl _) ⟨rfl,?_⟩
        by_cases k2:k'=2<;>simp_all
    | false =>
      refine acalls_of [] [] Tryz.func258 rfl (by kernel_rfl) ?_;rw [Tryz.ntmps258,Tryz.results258]
      try simp only [go_sem,seval,tb258]
      exact .mk (.refl _) (.refl _) ⟨rfl,rfl⟩
  · rintro r σ' ⟨h1,h2⟩
    rw [h1,h2]
    try simp only [go_sem,seval,tb219]
    rw [List.take_of_length_le (by omega)]
    exact .mk (.refl _) (.cons _ _) ⟨by simp [q],rfl⟩
end Go.Vx
end
section
set_option maxRecDepth 100000
namespace Go.Vx
open Go.Proofs
theorem tb259:(szOf Tryz.prog 52=some 4)∧(aggOf Tryz.prog 52=some true)∧(zeroOf Tryz.prog 23=some (.slice none 0 0))∧(zeroOf Tryz.prog 141=some (.map none))∧(szOf Tryz.prog 141=some 1)∧(szOf Tryz.prog 23=some 1)∧(aggOf Tryz.prog 23=some false):=by
  refine ⟨?_,?_,?_,?_,?_,?_,?_⟩<;>first | trivial | kernel_rfl
theorem tb270:(fOff Tryz.prog 52 0=some 0)∧(szOf Tryz.prog 3=some 1)∧(aggOf Tryz.prog 3=some false)∧(szOf Tryz.prog 141=some 1)∧(aggOf Tryz.prog 141=some false)∧(fOff Tryz.prog 52 1=some 1)∧(Tryz.prog.underlying 141=some (.map 3 4))∧(Tryz.prog.underlying 3=some (.int .i64))∧(zeroOf Tryz.prog 4=some (.bool false))∧(szOf Tryz.prog 23=some 1)∧(aggOf Tryz.prog 23=some false)∧(elOf Tryz.prog 23=some 3)∧(zeroOf Tryz.prog 3=some (.int .i64 0))∧(bytesOf Tryz.prog 3=some 8):=by
  refine ⟨?_,?_,?_,?_,?_,?_,?_,?_,?_,?_,?_,?_,?_,?_⟩<;>first | trivial | kernel_rfl
theorem tb221:(szOf Tryz.prog 52=some 4)∧(aggOf Tryz.prog 52=some true):=by
  refine ⟨?_,?_⟩<;>first | trivial | kernel_rfl
theorem tb220:(szOf Tryz.prog 52=some 4)∧(aggOf Tryz.prog 52=some true):=by
  refine ⟨?_,?_⟩<;>first | trivial | kernel_rfl
theorem tb216:(Tryz.prog.underlying 226=some (.map 3 4))∧(Tryz.prog.underlying 3=some (.int .i64))∧(zeroOf Tryz.prog 4=some (.bool false)):=by
  refine ⟨?_,?_,?_⟩<;>first | trivial | kernel_rfl
theorem tb167:(elOf Tryz.prog 33=some 52)∧(szOf Tryz.prog 52=some 4)∧(aggOf Tryz.prog 52=some true)∧(zeroOf Tryz.prog 52=some (.agg #[(.int .i64 0),(.int .i64 0),(.string ⟨#[]⟩),(.slice none 0 0)]))∧(Tryz.prog.underlying 33=some (.slice 52))∧(Tryz.prog.underlying 23=some (.slice 3)):=by
  refine ⟨?_,?_,?_,?_,?_,?_⟩<;>first | trivial | kernel_rfl
theorem tb222:(szOf Tryz.prog 226=some 1)∧(aggOf Tryz.prog 226=some false)∧(Tryz.prog.underlying 226=some (.map 3 4))∧(Tryz.prog.underlying 3=some (.int .i64))∧(zeroOf Tryz.prog 4=some (.bool false)):=by
  refine ⟨?_,?_,?_,?_,?_⟩<;>first | trivial | kernel_rfl
theorem tb214:(True):=by
  first | trivial | kernel_rfl
/-! ### how many nodes -/
mutual
def cnt:Ro→Nat
  | .mk l=>cnts l+1
def cnts:List Ro→Nat
  | []=>0
  | t::r=>cnt t+cnts r
end
mutual
theorem wlk_mono:∀ (t:Ro) (lv c d c' d':Int),wlk t lv (c,d)=(true,(c',d'))→d≤d'
  | .mk l,lv,c,d,c',d',h=>by
    simp only [wlk] at h
    split at h
    · split at h
      · have:=wlks_mono l (lv+1) (c+1) (max d lv) c' d' h;omega
      · simp at h;omega
    · simp at h
theorem wlks_mono:∀ (l:List Ro) (lv c d c' d':Int),wlks l lv (c,d)=(true,(c',d'))→d≤d'
  | [],lv,c,d,c',d',h=>by simp only [wlks] at h;injection h with _ h;injection h with h1 h2;omega
  | t::r,lv,c,d,c',d',h=>by
    simp only [wlks] at h
    cases hw:wlk t lv (c,d) with
    | mk b q =>
      obtain ⟨c1,d1⟩:=q
      rw [hw] at h
      cases b with
      | true=>have h1:=wlk_mono t lv c d c1 d1 hw;have h2:=wlks_mono r lv c1 d1 c' d' h;omega
      | false=>simp at h
end
mutual
theorem wlk_cnt:∀ (t:Ro) (lv c d c' d':Int),wlk t lv (c,d)=(true,(c',d'))→d'≤100→c'=c+cnt t
  | .mk l,lv,c,d,c',d',h,hd=>by
    simp only [wlk] at h
    split at h
    · split at h
      · have:=wlks_cnt l (lv+1) (c+1) (max d lv) c' d' h hd;simp only [cnt];omega
      · simp at h;omega
    · simp at h
theorem wlks_cnt:∀ (l:List Ro) (lv c d c' d':Int),wlks l lv (c,d)=(true,(c',d'))→d'≤100→c'=c+cnts l
  | [],lv,c,d,c',d',h,hd=>by simp only [wlks] at h;injection h with _ h;injection h with h1 h2;simp [cnts];omega
  | t::r,lv,c,d,c',d',h,hd=>by
    simp only [wlks] at h
    cases hw:wlk t lv (c,d) with
    | mk b q =>
      obtain ⟨c1,d1⟩:=q
      rw [hw] at h
      cases b with
      | true=>have h0:=wlks_mono r lv c1 d1 c' d' h;have h1:=wlk_cnt t lv c d c1 d1 hw (by omega);have h2:=wlks_cnt r lv c1 d1 c' d' h hd;simp only [cnts];omega
      | false=>simp at h
end
theorem wlk_false:∀ t:Ro,(wlk t 1 (0,0)).1=false→4000<(wlk t 1 (0,0)).2.1:=by
  have key:∀ (n:Nat),True:=fun _=>trivial
  intro t
  exact (go t 1 (0,0))
  where
  go:∀ (t:Ro) (lv:Int) (st:Int×Int),(wlk t lv st).1=false→4000<(wlk t lv st).2.1
  | .mk l,lv,(c,d),h=>by
    simp only [wlk] at h ⊢
    split at h
    · rename_i hc
      rw [if_pos hc]
      split at h
      · rename_i hl;rw [if_pos hl];exact gos l (lv+1) _ h
      · simp at h
    · rename_i hc;rw [if_neg hc];simp only;omega
  gos:∀ (l:List Ro) (lv:Int) (st:Int×Int),(wlks l lv st).1=false→4000<(wlks l lv st).2.1
  | [],lv,st,h=>by simp [wlks] at h
  | t::r,lv,st,h=>by
    simp only [wlks] at h ⊢
    cases hw:wlk t lv st with
    | mk b q =>
      rw [hw] at h
      cases b with
      | true=>exact gos r lv q h
      | false=>have:=go t lv st (by rw [hw]);rw [hw] at this;exact this
theorem sizedE_cnt (t:Ro)(h:sizedE t=0):cnt t≤4000:=by
  unfold sizedE at h
  split at h
  · simp at h
  · split at h
    · simp at h
    · rename_i h1 h2
      unfold meas at h1 h2
      cases hw:wlk t 1 (0,0) with
      | mk b q =>
        obtain ⟨c,d⟩:=q
        cases b with
        | true =>
          rw [hw] at h1 h2
          simp only [if_true] at h1 h2
          have:=wlk_cnt t 1 0 0 c d hw (by omega)
          omega
        | false =>
          have:=wlk_false t (by rw [hw])
          rw [hw] at h1 this
          simp at h1 this
          omega
mutual
theorem nodesB_len:∀ (t:Tm) (b:Int),(nodesB t b).length=cnt t.shape
  | .mk k n s l,b=>by rw [nodesB,List.length_cons,nodesBs_len l,Tm.shape,cnt]
theorem nodesBs_len:∀ (l:List Tm) (b:Int),(nodesBs l b).length=cnts (Tm.shapes l)
  | [],b=>rfl
  | t::r,b=>by rw [nodesBs,List.length_append,nodesB_len t b,nodesBs_len r b,Tm.shapes,cnts]
end
theorem rawE_len (t:Tm)(h:rawE t=0)(b:Int):(nodesB t b).length≤4000:=by
  rw [nodesB_len]
  refine sizedE_cnt _ ?_
  unfold rawE at h
  split at h
  · rename_i h1;exact absurd h h1
  · rename_i h1;simpa using h1
/-! ### sets of numbers -/
def addU (acc:List Int)(n:Int):List Int:=if n∈acc then acc else acc++[n]
def mapU (acc:List Int):List (Int×AV×Nat):=acc.zipIdx.map fun p=>(p.1,vb true,p.2)
theorem mapU_keys (acc:List Int):(mapU acc).map (·.1)=acc:=by
  unfold mapU
  rw [List.map_map]
  apply List.ext_getElem?
  intro i
  simp [List.getElem?_zipIdx,Function.comp_def]
theorem mapU_look (acc:List Int)(n:Int):lookL (mapU acc) n=if n∈acc then some (vb true) else none:=by
  unfold lookL
  by_cases h:n∈acc
  · rw [if_pos h]
    have:∃ e,(mapU acc).find? (fun e=>decide (e.1=n))=some e:=by
      rw [← mapU_keys acc,List.mem_map] at h
      obtain ⟨e,he,hn⟩:=h
      cases hf:(mapU acc).find? (fun e=>decide (e.1=n)) with
      | some e=>exact ⟨e,rfl⟩
      | none=>rw [List.find?_eq_none] at hf;exact absurd hn (by simpa using hf e he)
    obtain ⟨e,he⟩:=this
    rw [he]
    have hm:=List.mem_of_find?_eq_some he
    unfold mapU at hm
    obtain ⟨p,_,rfl⟩:=List.mem_map.1 hm
    rfl
  · rw [if_neg h]
    have:(mapU acc).find? (fun e=>decide (e.1=n))=none:=by
      rw [List.find?_eq_none]
      intro e he
      simp only [decide_eq_true_eq]
      intro hn
      exact h (by rw [← mapU_keys acc];exact List.mem_map.2 ⟨e,he,hn⟩)
    rw [this];rfl
theorem mapU_upd (acc:List Int)(n:Int)(h:n ∉ acc):updL (mapU acc) n (vb true) acc.length=mapU (acc++[n])∧updC (mapU acc) n acc.length=(acc++[n]).length:=by
  unfold updL updC
  rw [mapU_keys,if_neg h,if_neg h]
  refine ⟨?_,by simp⟩
  simp [mapU,List.zipIdx_append]
def numsL (kind:Int)(L:List (Tm×Int)):List Int:=L.foldl (fun acc p=>match p.1 with | .mk k n _ _=>if k=kind then addU acc n else acc) []
theorem addU_len (acc:List Int)(n:Int):(addU acc n).length≤acc.length+1:=by unfold addU;split<;>simp
theorem numsL_len (kind:Int)(L:List (Tm×Int)):(numsL kind L).length≤L.length:=by
  have:∀ (L:List (Tm×Int)) (acc:List Int),(L.foldl (fun acc p=>match p.1 with | .mk k n _ _=>if k=kind then addU acc n else acc) acc).length≤acc.length+L.length:=by
    intro L
    induction L with
    | nil=>intro acc;simp
    | cons p r ih =>
      intro acc
      obtain ⟨⟨k,n,s,l⟩,b⟩:=p
      simp only [List.foldl_cons,List.length_cons]
      have:=ih (if k=kind then addU acc n else acc)
      have h2:(if k=kind then addU acc n else acc).length≤acc.length+1:=by split;exact addU_len acc n;omega
      omega
  have:=this L []
  simpa [numsL] using this
theorem numsL_snoc (kind:Int)(L:List (Tm×Int))(i:Nat)(k n:Int)(s:Str)(l:List Tm)(b:Int)(h:L[i]?=some (.mk k n s l,b)):numsL kind (L.take (i+1))=if k=kind then addU (numsL kind (L.take i)) n else numsL kind (L.take i):=by
  rw [List.take_add_one,h]
  simp [numsL,List.foldl_append]
/-- What numbers keeps. -/
structure NS (σ:Store) (kind:Int) (bk bm rm bo:Nat) (acc:List Int) (S:Store):Prop where
  gk:S.get bk=some (.cells [vi kind])
  gm:S.get bm=some (.cells [.val (.map (some rm))])
  gr:S.get rm=some (.map (embM keI (mapU acc)) acc.length)
  go:∃ v,S.get bo=some (.cells [v])∧LV σ S v 1 (ints acc)
  has:Has σ S
theorem numbers1_c (σ:Store)(kind:Int)(bk bm rm bo:Nat)(fr:Fresh σ rm)(fo:Fresh σ bo)(nmo:bm≠bo)(nko:bk≠bo)(acc:List Int)(hacc:acc.length≤4000)(k n b:Int)(s:Str)(l:List Tm)(S:Store)(h:NS σ kind bk bm rm bo acc S) :
    ACalls Tryz.prog 270 [.agg (Tm.mk k n s l).emb,vi b,.val (.pointer (some ⟨bk,0,none⟩)),.val (.pointer (some ⟨bm,0,none⟩)),.val (.pointer (some ⟨bo,0,none⟩))] S
      (fun r S'=>r=.ret (.tup [])∧NS σ kind bk bm rm bo (if k=kind then addU acc n else acc) S'):=by
  obtain ⟨v,go,hv⟩:=h.go
  have gk:=h.gk
  have gm:=h.gm
  have gr:=h.gr
  simp only [Tm.emb_mk]
  refine acalls_of [] [] Tryz.func270 rfl (by kernel_rfl) ?_;rw [Tryz.ntmps270,Tryz.results270]
  try simp only [go_sem,seval,tb270,gk]
  refine ⟨fun hk=>?_,fun hk=>?_⟩
  · rw [if_pos hk]
    try simp only [go_sem,seval,tb270,gm]
    refine alook_int (z:=.bool false) tb270.2.2.2.2.2.2.1 (by simp only [tb270]) (by simp only [tb270]) gr ?_
    rw [lkV_f,mapU_look]
    by_cases hin:n∈acc
    · have ha:addU acc n=acc:=by unfold addU;rw [if_pos hin]
      rw [if_pos hin,ha]
      try simp only [go_sem,seval,tb270,Option.getD_some]
      exact .mk (.refl _) (.refl _) ⟨rfl,h⟩
    · have ha:addU acc n=acc++[n]:=by unfold addU;rw [if_neg hin]
      rw [if_neg hin,ha]
      try simp only [go_sem,seval,tb270,Option.getD_none,gm]
      refine amapUpd_int tb270.2.2.2.2.2.2.1 (by simp only [tb270]) gr ?_
      obtain ⟨u1,u2⟩:=mapU_upd acc n hin
      rw [u1,u2]
      have nor:bo≠rm:=fun e=>by rw [e,gr] at go;cases go
      have nmr:bm≠rm:=fun e=>by rw [e,gr] at gm;cases gm
      have nkr:bk≠rm:=fun e=>by rw [e,gr] at gk;cases gk
      have go1:(S.set rm (.map (embM keI (mapU (acc++[n]))) (acc++[n]).length)).get bo=some (.cells [v]):=by rw [get_set_ne nor];exact go
      try simp only [go_sem,seval,tb270,go1]
      have hv1:LV σ (S.set rm (.map (embM keI (mapU (acc++[n]))) (acc++[n]).length)) v 1 (ints acc):=hv.set gr (fun e c h=>by cases h) _
      refine ⟨rfl,hv1.append rfl (by decide) (by simp [ints];omega) rfl (by simp) (h.has.set fr _) (fun v' S' hv' hkp hS'=>?_)⟩
      have e1:ints acc++[[AV.val (.int .i64 n)]]=ints (acc++[n]):=by simp [ints]
      rw [e1] at hv'
      have gr':=hkp rm _ (get_set_same gr) (by simp)
      have gm':=hkp bm _ (by rw [get_set_ne nmr];exact gm) (by simp)
      have gk':=hkp bk _ (by rw [get_set_ne nkr];exact gk) (by simp)
      have go':=hkp bo _ go1 (by simp)
      try simp only [go_sem,seval,tb270,hv'.cells,hv'.one,go']
      refine .mk (.refl _) (.refl _) ⟨rfl,⟨by rw [get_set_ne nko];exact gk',by rw [get_set_ne nmo];exact gm',by rw [get_set_ne (Ne.symm nor)];exact gr',⟨v',get_set_same go',hv'.set go' (by simp) _⟩,hS'.set fo _⟩⟩
  · rw [if_neg hk]
    exact .mk (.refl _) (.refl _) ⟨rfl,h⟩
def numsT (t:Tm)(kind:Int):List Int:=if rawE t≠0 then [] else numsL kind (nodesB t 0)
theorem numbers_c (t:Tm)(kind:Int):Pur Tryz.prog 259 [.agg t.emb,vi kind] (.list .none 1 (ints (numsT t kind))):=by
  intro σ
  refine ACalls.nodup (by kernel_rfl) (fun hnd=>?_)
  have hr:=raw_c t
  have hlen:=fun h=>rawE_len t h 0
  have hn:=fun f Pp=>each_r f Pp t 0 0
  have hd:numsT t kind=if rawE t≠0 then [] else numsL kind (nodesB t 0):=rfl
  rw [hd]
  generalize rawE t=e at hr hlen ⊢
  generalize nodesB t 0=L at hn hlen ⊢
  obtain ⟨k,n,s,l⟩:=t
  simp only [Tm.emb_mk] at hr hn ⊢
  refine acalls_of [2,3] [] Tryz.func259 rfl (by kernel_rfl) ?_;rw [Tryz.ntmps259,Tryz.results259]
  try simp only [go_sem,seval,tb259]
  intro b2 hb2 b3 hb3
  try simp only [go_sem,seval,tb259,hb3]
  refine hr.use ?_
  try simp only [go_sem,seval,tb259]
  refine ⟨fun q=>?_,fun q=>?_⟩
  · rw [if_pos q]
    exact .mk (.nilA _ _ _) (((Sub.refl σ).skip _).skip _) ⟨rfl,rfl⟩
  · rw [if_neg (not_not_intro q)]
    intro b5 hb5
    try simp only [go_sem,seval,tb259]
    intro rm hrm b6 hb6
    have g2:Store.get ((b3,AObj.cells [vi kind])::(b2,.cells [vi k,vi n,vs s,.list .none 4 (Tm.embs l)])::σ) b2=some (.cells [vi k,vi n,vs s,.list .none 4 (Tm.embs l)]):=by rw [get_fresh hb3 (by rw [get_same];rfl),get_same]
    try simp only [go_sem,seval,tb259,hb3,hb5,hrm,hb6]
    have hlen:=hlen q
    obtain ⟨S0,hS0⟩:∃ S0:Store,S0=(b6,AObj.cells [.val (.map (some rm))])::(rm,.map [] 0)::(b5,.cells [.list .full 0 []])::(b3,.cells [vi kind])::(b2,.cells [vi k,vi n,vs s,.list .none 4 (Tm.embs l)])::σ:=⟨_,rfl⟩
    have hcl:((b6,AObj.cells [AV.val (Value.map (some rm))])::(rm,.map [] 0)::(b5,.cells [.list .full 0 []])::(b3,.cells [.val (.int .i64 kind)])::(b2,.cells [.val (.int .i64 k),.val (.int .i64 n),.val (.string s),.list .none 4 (Tm.embs l)])::σ:Store)=S0:=hS0.symm
    rw [hcl]
    have n35:b3≠b5:=hb5.1
    have n3r:b3≠rm:=hrm.2.1
    have n5r:b5≠rm:=hrm.1
    have nr6:rm≠b6:=hb6.1
    have n56:b5≠b6:=hb6.2.1
    have n36:b3≠b6:=hb6.2.2.1
    have f5:Fresh σ b5:=hb5.2.2
    have fr:Fresh σ rm:=hrm.2.2.2
    have h0:NS σ kind b3 b6 rm b5 [] S0:=by
      rw [hS0]
      refine ⟨?_,get_same _ _ _,?_,⟨.list .full 0 [],?_,LV.nil _ _ _⟩,fun p hp=>by simp [hp]⟩
      · rw [get_other (Ne.symm n36),get_other (Ne.symm n3r),get_other (Ne.symm n35),get_same]
      · rw [get_other (Ne.symm nr6),get_same];rfl
      · rw [get_other (Ne.symm n56),get_other (Ne.symm n5r),get_same]
    have G2:S0.get b2=some (.cells [vi k,vi n,vs s,.list .none 4 (Tm.embs l)]):=by
      rw [hS0,get_other (Ne.symm hb6.2.2.2.1),get_other (Ne.symm hrm.2.2.1),get_other (Ne.symm hb5.2.1),g2]
    try simp only [go_sem,seval,tb259,G2]
    refine (hn (.func (.func 270) #[] #[.pointer (some ⟨b3,0,none⟩),.pointer (some ⟨b6,0,none⟩),.pointer (some ⟨b5,0,none⟩)]) (fun i S=>NS σ kind b3 b6 rm b5 (numsL kind (L.take i)) S) S0 h0 (fun j p S hj hS=>?_)).mono ?_
    · rw [Nat.zero_add] at hS ⊢
      obtain ⟨⟨k',n',s',l'⟩,c⟩:=p
      rw [numsL_snoc kind L j k' n' s' l' c hj,inv_of]
      have:=numsL_len kind (L.take j)
      rw [List.length_take] at this
      exact numbers1_c σ kind b3 b6 rm b5 fr f5 (Ne.symm n56) n35 _ (by omega) k' n' c s' l' S hS
    · rintro r S' ⟨h1,hS'⟩
      rw [h1]
      rw [Nat.zero_add,List.take_of_length_le (Nat.le_refl _)] at hS'
      obtain ⟨v,go,hv⟩:=hS'.go
      try simp only [go_sem,seval,tb259,go]
      exact .mk hv.wk (hS'.has.sub hnd) ⟨rfl,rfl⟩
theorem vars_c (t:Tm):Pur Tryz.prog 221 [.agg t.emb] (.list .none 1 (ints (numsT t 4))):=by
  intro σ
  have h:=numbers_c t 4
  obtain ⟨k,n,s,l⟩:=t
  simp only [Tm.emb_mk] at h ⊢
  refine acalls_of [] [] Tryz.func221 rfl (by kernel_rfl) ?_;rw [Tryz.ntmps221,Tryz.results221]
  try simp only [go_sem,seval,tb221]
  refine h.use ?_
  try simp only [go_sem,seval,tb221]
  exact fin_same
theorem pars_c (t:Tm):Pur Tryz.prog 220 [.agg t.emb] (.list .none 1 (ints (numsT t 3))):=by
  intro σ
  have h:=numbers_c t 3
  obtain ⟨k,n,s,l⟩:=t
  simp only [Tm.emb_mk] at h ⊢
  refine acalls_of [] [] Tryz.func220 rfl (by kernel_rfl) ?_;rw [Tryz.ntmps220,Tryz.results220]
  try simp only [go_sem,seval,tb220]
  refine h.use ?_
  try simp only [go_sem,seval,tb220]
  exact fin_same
end Go.Vx
end
