/- Part Q26 of the proof of treeCaughtProved: the walk of the program on abstract values, and the plain law. -/
import Derived.Test.YtmedmnondjmleaaGreatQ25
set_option linter.unusedVariables false
set_option linter.unusedSimpArgs false
set_option maxRecDepth 100000
namespace Go.Vx
open Go.Proofs
theorem tb128:(zeroOf Tryz.prog 3=some (.int .i64 0))∧(szOf Tryz.prog 3=some 1)∧(aggOf Tryz.prog 3=some false):=by
  refine ⟨?_,?_,?_⟩<;>first | trivial | kernel_rfl
theorem tb157:(zeroOf Tryz.prog 1=some .nilFunc)∧(szOf Tryz.prog 1=some 1)∧(zeroOf Tryz.prog 165=some .nilFunc)∧(szOf Tryz.prog 165=some 1)∧(zeroOf Tryz.prog 216=some .nilFunc)∧(szOf Tryz.prog 216=some 1)∧(fOff Tryz.prog 25 0=some 0)∧(szOf Tryz.prog 22=some 1)∧(aggOf Tryz.prog 22=some false)∧(elOf Tryz.prog 22=some 129)∧(szOf Tryz.prog 129=some 2)∧(aggOf Tryz.prog 129=some true)∧(zeroOf Tryz.prog 129=some (.agg #[(.slice none 0 0),(.slice none 0 0)]))∧(fOff Tryz.prog 129 1=some 1)∧(szOf Tryz.prog 127=some 1)∧(aggOf Tryz.prog 127=some false)∧(elOf Tryz.prog 127=some 132)∧(szOf Tryz.prog 132=some 7)∧(aggOf Tryz.prog 132=some true)∧(zeroOf Tryz.prog 132=some (.agg #[(.slice none 0 0),(.slice none 0 0),(.slice none 0 0),(.string ⟨#[]⟩),(.slice none 0 0),(.slice none 0 0),(.slice none 0 0)]))∧(aggOf Tryz.prog 1=some false)∧(fOff Tryz.prog 132 4=some 4)∧(szOf Tryz.prog 33=some 1)∧(aggOf Tryz.prog 33=some false)∧(elOf Tryz.prog 33=some 52)∧(szOf Tryz.prog 52=some 4)∧(aggOf Tryz.prog 52=some true)∧(zeroOf Tryz.prog 52=some (.agg #[(.int .i64 0),(.int .i64 0),(.string ⟨#[]⟩),(.slice none 0 0)]))∧(aggOf Tryz.prog 165=some false)∧(fOff Tryz.prog 132 5=some 5)∧(szOf Tryz.prog 130=some 1)∧(aggOf Tryz.prog 130=some false)∧(elOf Tryz.prog 130=some 152)∧(szOf Tryz.prog 152=some 9)∧(aggOf Tryz.prog 152=some true)∧(zeroOf Tryz.prog 152=some (.agg #[(.int .i64 0),(.string ⟨#[]⟩),(.slice none 0 0),(.string ⟨#[]⟩),(.slice none 0 0),(.slice none 0 0),(.int .i64 0),(.int .i64 0),(.slice none 0 0)]))∧(aggOf Tryz.prog 216=some false)∧(Tryz.prog.underlying 22=some (.slice 129))∧(Tryz.prog.underlying 127=some (.slice 132))∧(Tryz.prog.underlying 33=some (.slice 52))∧(Tryz.prog.underlying 130=some (.slice 152)):=by
  refine ⟨?_,?_,?_,?_,?_,?_,?_,?_,?_,?_,?_,?_,?_,?_,?_,?_,?_,?_,?_,?_,?_,?_,?_,?_,?_,?_,?_,?_,?_,?_,?_,?_,?_,?_,?_,?_,?_,?_,?_,?_,?_⟩<;>first | trivial | kernel_rfl
theorem tb158:(szOf Tryz.prog 3=some 1)∧(aggOf Tryz.prog 3=some false):=by
  refine ⟨?_,?_⟩<;>first | trivial | kernel_rfl
theorem tb160:(szOf Tryz.prog 1=some 1)∧(aggOf Tryz.prog 1=some false)∧(fOff Tryz.prog 52 3=some 3)∧(szOf Tryz.prog 33=some 1)∧(aggOf Tryz.prog 33=some false)∧(elOf Tryz.prog 33=some 52)∧(szOf Tryz.prog 52=some 4)∧(aggOf Tryz.prog 52=some true)∧(zeroOf Tryz.prog 52=some (.agg #[(.int .i64 0),(.int .i64 0),(.string ⟨#[]⟩),(.slice none 0 0)]))∧(szOf Tryz.prog 165=some 1)∧(aggOf Tryz.prog 165=some false)∧(Tryz.prog.underlying 33=some (.slice 52)):=by
  refine ⟨?_,?_,?_,?_,?_,?_,?_,?_,?_,?_,?_,?_⟩<;>first | trivial | kernel_rfl
theorem tb161:(szOf Tryz.prog 1=some 1)∧(aggOf Tryz.prog 1=some false)∧(fOff Tryz.prog 152 2=some 2)∧(szOf Tryz.prog 33=some 1)∧(aggOf Tryz.prog 33=some false)∧(elOf Tryz.prog 33=some 52)∧(szOf Tryz.prog 52=some 4)∧(aggOf Tryz.prog 52=some true)∧(zeroOf Tryz.prog 52=some (.agg #[(.int .i64 0),(.int .i64 0),(.string ⟨#[]⟩),(.slice none 0 0)]))∧(szOf Tryz.prog 165=some 1)∧(aggOf Tryz.prog 165=some false)∧(fOff Tryz.prog 152 4=some 5)∧(szOf Tryz.prog 130=some 1)∧(aggOf Tryz.prog 130=some false)∧(elOf Tryz.prog 130=some 152)∧(szOf Tryz.prog 152=some 9)∧(aggOf Tryz.prog 152=some true)∧(zeroOf Tryz.prog 152=some (.agg #[(.int .i64 0),(.string ⟨#[]⟩),(.slice none 0 0),(.string ⟨#[]⟩),(.slice none 0 0),(.slice none 0 0),(.int .i64 0),(.int .i64 0),(.slice none 0 0)]))∧(szOf Tryz.prog 216=some 1)∧(aggOf Tryz.prog 216=some false)∧(Tryz.prog.underlying 33=some (.slice 52))∧(Tryz.prog.underlying 130=some (.slice 152)):=by
  refine ⟨?_,?_,?_,?_,?_,?_,?_,?_,?_,?_,?_,?_,?_,?_,?_,?_,?_,?_,?_,?_,?_,?_⟩<;>first | trivial | kernel_rfl
mutual
def tmN:Tm→Nat
  | .mk _ _ _ l=>tmsN l+1
def tmsN:List Tm→Nat
  | []=>0
  | t::r=>tmN t+tmsN r
end
mutual
def glN:FGoal→Nat
  | .mk _ _ a _ l _ _ _=>tmsN a+glsN l+1
def glsN:List FGoal→Nat
  | []=>0
  | t::r=>glN t+glsN r
end
def clN (c:FClause):Nat:=tmsN c.args+glsN c.goals+1
def clsN:List FClause→Nat
  | []=>0
  | c::r=>clN c+clsN r
def grsN:List FGroup→Nat
  | []=>0
  | g::r=>clsN g.alts+grsN r
def nodesN (f:Flat):Nat:=grsN f.groups
theorem tmsN_app (l m:List Tm):tmsN (l++m)=tmsN l+tmsN m:=by
  induction l with
  | nil=>simp [tmsN]
  | cons a r ih=>simp only [List.cons_append,tmsN,ih];omega
theorem tmsN_step {l:List Tm}{i:Nat}{x:Tm}(h:l[i]?=some x):tmsN (l.take (i+1))=tmsN (l.take i)+tmN x:=by
  rw [List.take_add_one,h,Option.toList_some,tmsN_app];simp [tmsN]
theorem tmsN_le (l:List Tm)(i:Nat):tmsN (l.take i)≤tmsN l:=by
  have:=tmsN_app (l.take i) (l.drop i)
  rw [List.take_append_drop] at this;omega
theorem glsN_app (l m:List FGoal):glsN (l++m)=glsN l+glsN m:=by
  induction l with
  | nil=>simp [glsN]
  | cons a r ih=>simp only [List.cons_append,glsN,ih];omega
theorem glsN_step {l:List FGoal}{i:Nat}{x:FGoal}(h:l[i]?=some x):glsN (l.take (i+1))=glsN (l.take i)+glN x:=by
  rw [List.take_add_one,h,Option.toList_some,glsN_app];simp [glsN]
theorem glsN_le (l:List FGoal)(i:Nat):glsN (l.take i)≤glsN l:=by
  have:=glsN_app (l.take i) (l.drop i)
  rw [List.take_append_drop] at this;omega
theorem clsN_app (l m:List FClause):clsN (l++m)=clsN l+clsN m:=by
  induction l with
  | nil=>simp [clsN]
  | cons a r ih=>simp only [List.cons_append,clsN,ih];omega
theorem clsN_step {l:List FClause}{i:Nat}{x:FClause}(h:l[i]?=some x):clsN (l.take (i+1))=clsN (l.take i)+clN x:=by
  rw [List.take_add_one,h,Option.toList_some,clsN_app];simp [clsN]
theorem clsN_le (l:List FClause)(i:Nat):clsN (l.take i)≤clsN l:=by
  have:=clsN_app (l.take i) (l.drop i)
  rw [List.take_append_drop] at this;omega
theorem grsN_app (l m:List FGroup):grsN (l++m)=grsN l+grsN m:=by
  induction l with
  | nil=>simp [grsN]
  | cons a r ih=>simp only [List.cons_append,grsN,ih];omega
theorem grsN_step {l:List FGroup}{i:Nat}{x:FGroup}(h:l[i]?=some x):grsN (l.take (i+1))=grsN (l.take i)+clsN x.alts:=by
  rw [List.take_add_one,h,Option.toList_some,grsN_app];simp [grsN]
theorem grsN_le (l:List FGroup)(i:Nat):grsN (l.take i)≤grsN l:=by
  have:=grsN_app (l.take i) (l.drop i)
  rw [List.take_append_drop] at this;omega
def nV (n:Nat):AObj:=.cells [vi (n:Int)]
def adV (bn:Nat):Value:=.func (.func 158) #[] #[.pointer (some ⟨bn,0,none⟩)]
def wtV (b2 b3:Nat):Value:=.func (.func 160) #[] #[.pointer (some ⟨b2,0,none⟩),.pointer (some ⟨b3,0,none⟩)]
def wkV (b2 b3 b4:Nat):Value:=.func (.func 161) #[] #[.pointer (some ⟨b2,0,none⟩),.pointer (some ⟨b3,0,none⟩),.pointer (some ⟨b4,0,none⟩)]
def CntR (bn:Nat)(σ:Store)(n k:Nat):ARes→Store→Prop:=fun r S' =>
  if n+k≤8000 then r=.ret (.tup [])∧S'=σ.set bn (nV (n+k)) else r=.pan (clFault 2)∧∃ m,S'=σ.set bn (nV m)
theorem add_c (bn:Nat)(σ:Store)(n:Nat)(gn:σ.get bn=some (nV n))(hn:n≤8000):ACalls Tryz.prog 158 [.val (.pointer (some ⟨bn,0,none⟩))] σ (CntR bn σ n 1):=by
  have gn':=gn
  unfold nV at gn'
  have hw:IntKind.i64.wrap ((n:Int)+1)=((n+1:Nat):Int):=wrap64 (by omega) (by omega)
  refine acalls_of [] [] Tryz.func158 rfl (by kernel_rfl) ?_;rw [Tryz.ntmps158,Tryz.results158]
  try simp only [go_sem,seval,tb158,gn',get_set_same gn',hw]
  refine cmust_use (fun hm=>?_) (fun hm=>?_)
  · try simp only [go_sem,seval,tb158]
    have:n+1≤8000:=by have:=of_decide_eq_true hm;omega
    refine .mk (.refl _) (.refl _) ?_
    unfold CntR
    rw [if_pos this]
    exact ⟨rfl,rfl⟩
  · try simp only [go_sem,seval,tb158]
    have:¬ n+1≤8000:=by have:=of_decide_eq_false hm;omega
    refine .mk (.refl _) ?_
    unfold CntR
    rw [if_neg this]
    exact ⟨rfl,n+1,rfl⟩
theorem wt_c (bn b2 b3:Nat)(t:Tm):∀ (σ:Store) (n:Nat),σ.get bn=some (nV n)→σ.get b2=some (.cells [.val (adV bn)])→σ.get b3=some (.cells [.val (wtV b2 b3)])→n≤8000 →
    ACalls Tryz.prog 160 [.agg t.emb,.val (.pointer (some ⟨b2,0,none⟩)),.val (.pointer (some ⟨b3,0,none⟩))] σ (CntR bn σ n (tmN t)):=by
  induction t using Tm.ind with | h k nn s l ih=>?_
  intro σ n gn g2 g3 hn
  refine ACalls.ok (by kernel_rfl) (fun hok=>?_)
  have hlen:=(((hok _ List.mem_cons_self).agg (c:=.list .none 4 (Tm.embs l)) (by simp [Tm.emb_mk])).len)
  rw [Tm.embs_len] at hlen
  clear hok
  have n2:b2≠bn:=fun e=>by rw [e,gn] at g2;cases g2
  have n3:b3≠bn:=fun e=>by rw [e,gn] at g3;cases g3
  simp only [Tm.emb_mk]
  rw [tmN]
  have g2':=g2
  unfold adV at g2'
  have g3':=g3
  unfold wtV at g3'
  refine acalls_of [] [] Tryz.func160 rfl (by kernel_rfl) ?_;rw [Tryz.ntmps160,Tryz.results160]
  try simp only [go_sem,seval,tb160,g2']
  refine (add_c bn σ n gn hn).mono ?_
  rintro w S' hw
  unfold CntR at hw
  by_cases hlt:n+1≤8000
  · rw [if_pos hlt] at hw
    obtain ⟨hw1,hw2⟩:=hw
    rw [hw1,hw2]
    try simp only [go_sem,seval,tb160,Tm.embs_len]
    obtain ⟨T,hT⟩:∃ T,T=σ.set bn (nV (n+1)):=⟨_,rfl⟩
    rw [← hT]
    have gT:T.get bn=some (nV (n+1)):=by rw [hT,get_set_same gn]
    have gT2:T.get b2=some (.cells [.val (adV bn)]):=by rw [hT,get_set_ne n2];exact g2
    have gT3:T.get b3=some (.cells [.val (wtV b2 b3)]):=by rw [hT,get_set_ne n3];exact g3
    have hTs:∀ y,Sub (σ.set bn y) (T.set bn y):=fun y=>by rw [hT,set_set];exact .refl _
    have htot:∀ m,m≤tmsN l→n+1+m≤n+(tmsN l+1):=fun m hm=>by omega
    refine aloopT (mu:=[]) (dr:=[]) [5,11,12,13,14,15,16,17,18] (fun i:Nat=>[(11,vi i)]) (fun i=>T.set bn (nV (n+1+tmsN (l.take i)))) (fun i=>i≤l.length∧n+1+tmsN (l.take i)≤8000) (fun i=>l.length-i) 0 (by kernel_rfl) ⟨by omega,by simp only [List.take_zero,tmsN];omega⟩ ⟨.refl _,trivial⟩ (by simp only [List.take_zero,tmsN,Nat.add_zero];rw [set_self gT];exact .refl _) ?_
    rintro i ⟨i1,i2⟩
    try simp only [go_sem,seval,tb160,Tm.embs_len,Tm.embs_len]
    refine ⟨fun h1=>⟨by omega,h1,fun c hc=>?_⟩,fun h1=>?_⟩
    · rw [Int.toNat_natCast] at hc
      obtain ⟨x,hx,rfl⟩:=Tm.embs_get hc
      have hst:=tmsN_step hx
      have hle:=tmsN_le l (i+1)
      have hcall:=(ih _ (List.mem_of_getElem? hx))
      generalize tmN x=nx at hcall hst
      obtain ⟨k',n',s',l'⟩:=x
      simp only [Tm.emb_mk] at hcall
      try simp only [go_sem,seval,tb160,Tm.emb_mk]
      intro bt hbt
      have nbt:bt≠bn:=fun e=>by have:=fresh_get hbt;rw [e,get_set_same gT] at this;cases this
      have nb2:bt≠b2:=fun e=>by have:=fresh_get hbt;rw [e,get_set_ne n2,gT2] at this;cases this
      have nb3:bt≠b3:=fun e=>by have:=fresh_get hbt;rw [e,get_set_ne n3,gT3] at this;cases this
      try simp only [go_sem,seval,tb160,get_other nb3,get_set_ne n3,gT3,wtV]
      refine (hcall _ _ (by rw [get_other nbt,get_set_same gT]) (by rw [get_other nb2,get_set_ne n2];exact gT2) (by rw [get_other nb3,get_set_ne n3];exact gT3) i2).mono ?_
      rintro w S' hw
      unfold CntR at hw
      rw [set_other nbt] at hw
      by_cases hlt2:n+1+tmsN (l.take i)+nx≤8000
      · rw [if_pos hlt2,set_set] at hw
        obtain ⟨hw1,hw2⟩:=hw
        rw [hw1,hw2]
        try simp only [go_sem,seval,tb160]
        rw [show IntKind.i64.wrap ((i:Int)+1)=((i+1:Nat):Int) from wrap64 (by omega) (by omega)]
        refine .mk (i+1) ⟨by omega,by rw [hst];omega⟩ (by omega) ⟨.refl _,trivial⟩ (by repeat first | exact Keeps.turn _ rfl | refine Keeps.put rfl ?_ | refine Keeps.turnS _ rfl rfl ?_) ?_
        try simp only
        rw [hst,← Nat.add_assoc]
        exact (Sub.refl _).skip _
      · rw [if_neg hlt2] at hw
        obtain ⟨hw1,m,hw2⟩:=hw
        rw [hw1,hw2,set_other nbt,set_set]
        try simp only [go_sem,seval,tb160]
        refine .mk ((hTs _).skip _) ?_
        unfold CntR
        rw [if_neg (by omega)]
        exact ⟨rfl,m,rfl⟩
    have hil:l.take i=l:=List.take_of_length_le (by omega)
    rw [hil] at i2 ⊢
    try simp only [go_sem,seval,tb160]
    refine .mk (.refl _) (hTs _) ?_
    unfold CntR
    rw [if_pos (by omega)]
    exact ⟨rfl,by rw [show n+(tmsN l+1)=n+1+tmsN l by omega]⟩
  · rw [if_neg hlt] at hw
    obtain ⟨hw1,m,hw2⟩:=hw
    rw [hw1,hw2]
    try simp only [go_sem,seval,tb160,Tm.embs_len]
    refine .mk (.refl _) ?_
    unfold CntR
    rw [if_neg (by omega)]
    exact ⟨rfl,m,rfl⟩
theorem wk_c (bn b2 b3 b4:Nat)(t:FGoal):∀ (σ:Store) (n:Nat),σ.get bn=some (nV n)→σ.get b2=some (.cells [.val (adV bn)])→σ.get b3=some (.cells [.val (wtV b2 b3)])→σ.get b4=some (.cells [.val (wkV b2 b3 b4)])→n≤8000 →
    ACalls Tryz.prog 161 [.agg t.emb,.val (.pointer (some ⟨b2,0,none⟩)),.val (.pointer (some ⟨b3,0,none⟩)),.val (.pointer (some ⟨b4,0,none⟩))] σ (CntR bn σ n (glN t)):=by
  induction t using FGoal.ind with | h k s a t l nn g e ih=>?_
  intro σ n gn g2 g3 g4 hn
  obtain ⟨ts,tl⟩:=t
  refine ACalls.ok (by kernel_rfl) (fun hok=>?_)
  have hlen:=(((hok _ List.mem_cons_self).agg (c:=.list .none 9 (FGoal.embs l)) (by simp [FGoal.emb_mk])).len)
  have hlea:=(((hok _ List.mem_cons_self).agg (c:=.list .none 4 (Tm.embs a)) (by simp [FGoal.emb_mk])).len)
  rw [FGoal.embs_len] at hlen
  rw [Tm.embs_len] at hlea
  clear hok
  have n2:b2≠bn:=fun e=>by rw [e,gn] at g2;cases g2
  have n3:b3≠bn:=fun e=>by rw [e,gn] at g3;cases g3
  have n4:b4≠bn:=fun e=>by rw [e,gn] at g4;cases g4
  simp only [FGoal.emb_mk]
  rw [glN]
  have g2':=g2
  unfold adV at g2'
  refine acalls_of [] [] Tryz.func161 rfl (by kernel_rfl) ?_;rw [Tryz.ntmps161,Tryz.results161]
  try simp only [go_sem,seval,tb161,g2']
  refine (add_c bn σ n gn hn).mono ?_
  rintro w S' hw
  unfold CntR at hw
  by_cases hlt:n+1≤8000
  · rw [if_pos hlt] at hw
    obtain ⟨hw1,hw2⟩:=hw
    rw [hw1,hw2]
    try simp only [go_sem,seval,tb161,Tm.embs_len]
    obtain ⟨T,hT⟩:∃ T,T=σ.set bn (nV (n+1)):=⟨_,rfl⟩
    rw [← hT]
    have gT:T.get bn=some (nV (n+1)):=by rw [hT,get_set_same gn]
    have gT2:T.get b2=some (.cells [.val (adV bn)]):=by rw [hT,get_set_ne n2];exact g2
    have gT3:T.get b3=some (.cells [.val (wtV b2 b3)]):=by rw [hT,get_set_ne n3];exact g3
    have gT4:T.get b4=some (.cells [.val (wkV b2 b3 b4)]):=by rw [hT,get_set_ne n4];exact g4
    have hTs:∀ y,Sub (σ.set bn y) (T.set bn y):=fun y=>by rw [hT,set_set];exact .refl _
    refine aloopT (mu:=[]) (dr:=[]) [6,14,15,16,17,18,19,20,21] (fun i:Nat=>[(14,vi i)]) (fun i=>T.set bn (nV (n+1+tmsN (a.take i)))) (fun i=>i≤a.length∧n+1+tmsN (a.take i)≤8000) (fun i=>a.length-i) 0 (by kernel_rfl) ⟨by omega,by simp only [List.take_zero,tmsN];omega⟩ ⟨.refl _,trivial⟩ (by simp only [List.take_zero,tmsN,Nat.add_zero];rw [set_self gT];exact .refl _) ?_
    rintro i ⟨i1,i2⟩
    try simp only [go_sem,seval,tb161,Tm.embs_len,Tm.embs_len]
    refine ⟨fun h1=>⟨by omega,h1,fun c hc=>?_⟩,fun h1=>?_⟩
    · rw [Int.toNat_natCast] at hc
      obtain ⟨x,hx,rfl⟩:=Tm.embs_get hc
      have hst:=tmsN_step hx
      have hle:=tmsN_le a (i+1)
      have hcall:=(wt_c bn b2 b3 x)
      generalize tmN x=nx at hcall hst
      obtain ⟨k',n',s',l'⟩:=x
      simp only [Tm.emb_mk] at hcall
      try simp only [go_sem,seval,tb161,Tm.emb_mk]
      intro bt hbt
      have nbt:bt≠bn:=fun e=>by have:=fresh_get hbt;rw [e,get_set_same gT] at this;cases this
      have nb2:bt≠b2:=fun e=>by have:=fresh_get hbt;rw [e,get_set_ne n2,gT2] at this;cases this
      have nb3:bt≠b3:=fun e=>by have:=fresh_get hbt;rw [e,get_set_ne n3,gT3] at this;cases this
      try simp only [go_sem,seval,tb161,get_other nb3,get_set_ne n3,gT3,wtV]
      refine (hcall _ _ (by rw [get_other nbt,get_set_same gT]) (by rw [get_other nb2,get_set_ne n2];exact gT2) (by rw [get_other nb3,get_set_ne n3];exact gT3) i2).mono ?_
      rintro w S' hw
      unfold CntR at hw
      rw [set_other nbt] at hw
      by_cases hlt2:n+1+tmsN (a.take i)+nx≤8000
      · rw [if_pos hlt2,set_set] at hw
        obtain ⟨hw1,hw2⟩:=hw
        rw [hw1,hw2]
        try simp only [go_sem,seval,tb161]
        rw [show IntKind.i64.wrap ((i:Int)+1)=((i+1:Nat):Int) from wrap64 (by omega) (by omega)]
        refine .mk (i+1) ⟨by omega,by rw [hst];omega⟩ (by omega) ⟨.refl _,trivial⟩ (by repeat first | exact Keeps.turn _ rfl | refine Keeps.put rfl ?_ | refine Keeps.turnS _ rfl rfl ?_) ?_
        try simp only
        rw [hst,← Nat.add_assoc]
        exact (Sub.refl _).skip _
      · rw [if_neg hlt2] at hw
        obtain ⟨hw1,m,hw2⟩:=hw
        rw [hw1,hw2,set_other nbt,set_set]
        try simp only [go_sem,seval,tb161]
        refine .mk ((hTs _).skip _) ?_
        unfold CntR
        rw [if_neg (by omega)]
        exact ⟨rfl,m,rfl⟩
    have hil:a.take i=a:=List.take_of_length_le (by omega)
    rw [hil] at i2 ⊢
    obtain ⟨U,hU⟩:∃ U,U=T.set bn (nV (n+1+tmsN a)):=⟨_,rfl⟩
    rw [← hU]
    have gU:U.get bn=some (nV (n+1+tmsN a)):=by rw [hU,get_set_same gT]
    have gU2:U.get b2=some (.cells [.val (adV bn)]):=by rw [hU,get_set_ne n2];exact gT2
    have gU3:U.get b3=some (.cells [.val (wtV b2 b3)]):=by rw [hU,get_set_ne n3];exact gT3
    have gU4:U.get b4=some (.cells [.val (wkV b2 b3 b4)]):=by rw [hU,get_set_ne n4];exact gT4
    have hUs:∀ y,Sub (σ.set bn y) (U.set bn y):=fun y=>by rw [hU,set_set];exact hTs y
    clear hT gT gT2 gT3 hTs hU
    try simp only [go_sem,seval,tb161,FGoal.embs_len]
    refine aloopT (mu:=[]) (dr:=[]) [8,25,26,27,28,29,30,31,32] (fun i:Nat=>[(25,vi i)]) (fun i=>U.set bn (nV (n+1+tmsN a+glsN (l.take i)))) (fun i=>i≤l.length∧n+1+tmsN a+glsN (l.take i)≤8000) (fun i=>l.length-i) 0 (by kernel_rfl) ⟨by omega,by simp only [List.take_zero,glsN];omega⟩ ⟨.refl _,trivial⟩ (by simp only [List.take_zero,glsN,Nat.add_zero];rw [set_self gU];exact .refl _) ?_
    rintro i ⟨i1,i2⟩
    try simp only [go_sem,seval,tb161,FGoal.embs_len,Tm.embs_len]
    refine ⟨fun h1=>⟨by omega,h1,fun c hc=>?_⟩,fun h1=>?_⟩
    · rw [Int.toNat_natCast] at hc
      obtain ⟨x,hx,rfl⟩:=FGoal.embs_get hc
      have hst:=glsN_step hx
      have hle:=glsN_le l (i+1)
      have hcall:=(ih _ (List.mem_of_getElem? hx))
      generalize glN x=nx at hcall hst
      obtain ⟨k',s',a',⟨ts',tl'⟩,l',n',g',e'⟩:=x
      simp only [FGoal.emb_mk] at hcall
      try simp only [go_sem,seval,tb161,FGoal.emb_mk]
      intro bt hbt
      have nbt:bt≠bn:=fun e=>by have:=fresh_get hbt;rw [e,get_set_same gU] at this;cases this
      have nb2:bt≠b2:=fun e=>by have:=fresh_get hbt;rw [e,get_set_ne n2,gU2] at this;cases this
      have nb3:bt≠b3:=fun e=>by have:=fresh_get hbt;rw [e,get_set_ne n3,gU3] at this;cases this
      have nb4:bt≠b4:=fun e=>by have:=fresh_get hbt;rw [e,get_set_ne n4,gU4] at this;cases this
      try simp only [go_sem,seval,tb161,get_other nb4,get_set_ne n4,gU4,wkV]
      refine (hcall _ _ (by rw [get_other nbt,get_set_same gU]) (by rw [get_other nb2,get_set_ne n2];exact gU2) (by rw [get_other nb3,get_set_ne n3];exact gU3) (by rw [get_other nb4,get_set_ne n4];exact gU4) i2).mono ?_
      rintro w S' hw
      unfold CntR at hw
      rw [set_other nbt] at hw
      by_cases hlt2:n+1+tmsN a+glsN (l.take i)+nx≤8000
      · rw [if_pos hlt2,set_set] at hw
        obtain ⟨hw1,hw2⟩:=hw
        rw [hw1,hw2]
        try simp only [go_sem,seval,tb161]
        rw [show IntKind.i64.wrap ((i:Int)+1)=((i+1:Nat):Int) from wrap64 (by omega) (by omega)]
        refine .mk (i+1) ⟨by omega,by rw [hst];omega⟩ (by omega) ⟨.refl _,trivial⟩ (by repeat first | exact Keeps.turn _ rfl | refine Keeps.put rfl ?_ | refine Keeps.turnS _ rfl rfl ?_) ?_
        try simp only
        rw [hst,← Nat.add_assoc]
        exact (Sub.refl _).skip _
      · rw [if_neg hlt2] at hw
        obtain ⟨hw1,m,hw2⟩:=hw
        rw [hw1,hw2,set_other nbt,set_set]
        try simp only [go_sem,seval,tb161]
        refine .mk ((hUs _).skip _) ?_
        unfold CntR
        rw [if_neg (by omega)]
        exact ⟨rfl,m,rfl⟩
    have hil:l.take i=l:=List.take_of_length_le (by omega)
    rw [hil] at i2 ⊢
    try simp only [go_sem,seval,tb161]
    refine .mk (.refl _) (hUs _) ?_
    unfold CntR
    rw [if_pos (by omega)]
    exact ⟨rfl,by rw [show n+(tmsN a+glsN l+1)=n+1+tmsN a+glsN l by omega]⟩
  · rw [if_neg hlt] at hw
    obtain ⟨hw1,m,hw2⟩:=hw
    rw [hw1,hw2]
    try simp only [go_sem,seval,tb161,Tm.embs_len]
    refine .mk (.refl _) ?_
    unfold CntR
    rw [if_neg (by omega)]
    exact ⟨rfl,m,rfl⟩
theorem nodes1_c (f:Flat)(hf:Ok (.agg f.emb))(bn bf:Nat)(σ:Store)(gn:σ.get bn=some (nV 0))(gf:σ.get bf=some (.cells f.emb)) :
    ACalls Tryz.prog 157 [.val (.pointer (some ⟨bn,0,none⟩)),.val (.pointer (some ⟨bf,0,none⟩))] σ (CntR bn σ 0 (nodesN f)):=by
  have hgr:=hf.agg (c:=.list .none 2 (FGroup.embs f.groups)) (by simp [Flat.emb])
  have hlg:=hgr.len
  rw [FGroup.embs_len] at hlg
  have nfn:bf≠bn:=fun e=>by rw [e,gn] at gf;cases gf
  simp only [Flat.emb] at gf
  refine acalls_of [] [] Tryz.func157 rfl (by kernel_rfl) ?_;rw [Tryz.ntmps157,Tryz.results157]
  try simp only [go_sem,seval,tb157]
  intro b2 hb2
  try simp only [go_sem,seval,tb157]
  intro b3 hb3
  try simp only [go_sem,seval,tb157]
  intro b4 hb4
  try simp only [go_sem,seval,tb157]
  obtain ⟨T,hT⟩:∃ T:Store,T=(b4,.cells [.val (wkV b2 b3 b4)])::(b3,.cells [.val (wtV b2 b3)])::(b2,.cells [.val (adV bn)])::σ:=⟨_,rfl⟩
  rw [show ((b4,AObj.cells [.val (.func (.func 161) ⟨[]⟩ ⟨[.pointer (some ⟨b2,0,none⟩),.pointer (some ⟨b3,0,none⟩),.pointer (some ⟨b4,0,none⟩)]⟩)])::(b3,.cells [.val (.func (.func 160) ⟨[]⟩ ⟨[.pointer (some ⟨b2,0,none⟩),.pointer (some ⟨b3,0,none⟩)]⟩)])::(b2,.cells [.val (.func (.func 158) ⟨[]⟩ ⟨[.pointer (some ⟨bn,0,none⟩)]⟩)])::σ:Store)=T from hT.symm]
  have hne:∀ {b:Nat},Fresh σ b→b≠bn:=fun h e=>by have:=fresh_get h;rw [e,gn] at this;cases this
  have hnf:∀ {b:Nat},Fresh σ b→b≠bf:=fun h e=>by have:=fresh_get h;rw [e,gf] at this;cases this
  have n2:b2≠bn:=hne hb2
  have n3:b3≠bn:=hne hb3.2
  have n4:b4≠bn:=hne hb4.2.2
  have gT:T.get bn=some (nV 0):=by rw [hT,get_other n4,get_other n3,get_other n2];exact gn
  have gTf:T.get bf=some (.cells [.list .none 2 (FGroup.embs f.groups),.list .none 1 (ints f.rules)]):=by rw [hT,get_other (hnf hb4.2.2),get_other (hnf hb3.2),get_other (hnf hb2)];exact gf
  have gT4:T.get b4=some (.cells [.val (wkV b2 b3 b4)]):=by rw [hT,get_same]
  have gT3:T.get b3=some (.cells [.val (wtV b2 b3)]):=by rw [hT,get_other (Ne.symm hb4.1),get_same]
  have gT2:T.get b2=some (.cells [.val (adV bn)]):=by rw [hT,get_other (Ne.symm hb4.2.1),get_other (Ne.symm hb3.1),get_same]
  have hTs:∀ y,Sub (σ.set bn y) (T.set bn y):=fun y=>by rw [hT,set_other n4,set_other n3,set_other n2];exact (((Sub.refl _).skip _).skip _).skip _
  clear hT
  try simp only [go_sem,seval,tb157,gTf,FGroup.embs_len]
  have hw:∀ j:Nat,j≤137438953472→IntKind.i64.wrap ((j:Int)+1)=((j+1:Nat):Int):=fun j hj=>wrap64 (by omega) (by omega)
  refine aloopT (mu:=[]) (dr:=[]) [6,8,10,12,19,20,21,22,23,24,25,26,27,28,29,30,31,32,33,34,35,36,37,38,39,40,41,42,43,44,45,46,47,48,49,50,51,52,53,54,55] (fun i:Nat=>[(19,vi i)]) (fun i=>T.set bn (nV (grsN (f.groups.take i)))) (fun i=>i≤f.groups.length∧grsN (f.groups.take i)≤8000) (fun i=>f.groups.length-i) 0 (by kernel_rfl) ⟨by omega,by simp only [List.take_zero,grsN];omega⟩ ⟨.refl _,trivial⟩ (by simp only [List.take_zero,grsN];rw [set_self gT];exact .refl _) ?_
  rintro i0 ⟨p1,p2⟩
  try simp only [go_sem,seval,tb157,FGroup.embs_len]
  refine ⟨fun h1=>⟨by omega,h1,fun c hc=>?_⟩,fun h1=>?_⟩
  · rw [Int.toNat_natCast] at hc
    obtain ⟨G,hG,rfl⟩:=FGroup.embs_get hc
    have hGst:=grsN_step hG
    have hGle:=grsN_le f.groups (i0+1)
    have hGo:=hgr.mem (e:=G.emb) (List.mem_of_getElem? hc)
    have hlas:=(hGo.agg (c:=.list .none 7 (FClause.embs G.alts)) (by simp [FGroup.emb]))
    have hla:=hlas.len
    rw [FClause.embs_len] at hla
    try simp only [go_sem,seval,tb157,FGroup.emb]
    intro b6 hb6
    have n6:b6≠bn:=fun e=>by have:=fresh_get hb6;rw [e,get_set_same gT] at this;cases this
    have n62:b6≠b2:=fun e=>by have:=fresh_get hb6;rw [e,get_set_ne n2,gT2] at this;cases this
    have n63:b6≠b3:=fun e=>by have:=fresh_get hb6;rw [e,get_set_ne n3,gT3] at this;cases this
    have n64:b6≠b4:=fun e=>by have:=fresh_get hb6;rw [e,get_set_ne n4,gT4] at this;cases this
    try simp only [go_sem,seval,tb157,FClause.embs_len]
    refine aloopT (mu:=[]) (dr:=[]) [8,10,12,26,27,28,29,30,31,32,33,34,35,36,37,38,39,40,41,42,43,44,45,46,47,48,49,50,51,52,53,54] (fun i:Nat=>[(26,vi i)]) (fun i=>(b6,.cells [.list .none 2 (Ty.embs G.env),.list .none 7 (FClause.embs G.alts)])::T.set bn (nV (grsN (f.groups.take i0)+clsN (G.alts.take i)))) (fun i=>i≤G.alts.length∧grsN (f.groups.take i0)+clsN (G.alts.take i)≤8000) (fun i=>G.alts.length-i) 0 (by kernel_rfl) ⟨by omega,by simp only [List.take_zero,clsN];omega⟩ ⟨.refl _,trivial⟩ (by simp only [List.take_zero,clsN,Nat.add_zero];exact .refl _) ?_
    rintro j0 ⟨q1,q2⟩
    try simp only [go_sem,seval,tb157,FClause.embs_len]
    refine ⟨fun h1=>⟨by omega,h1,fun c hc=>?_⟩,fun h1=>?_⟩
    · rw [Int.toNat_natCast] at hc
      obtain ⟨C,hC,rfl⟩:=FClause.embs_get hc
      have hCst:=clsN_step hC
      have hCle:=clsN_le G.alts (j0+1)
      have hCo:=hlas.mem (e:=C.emb) (List.mem_of_getElem? hc)
      have hlen1:=(hCo.agg (c:=.list .none 4 (Tm.embs C.args)) (by simp [FClause.emb])).len
      have hlen2:=(hCo.agg (c:=.list .none 9 (FGoal.embs C.goals)) (by simp [FClause.emb])).len
      rw [Tm.embs_len] at hlen1
      rw [FGoal.embs_len] at hlen2
      try simp only [go_sem,seval,tb157,FClause.emb]
      intro b8 hb8
      try simp only [go_sem,seval,tb157]
      obtain ⟨N,hN⟩:∃ N,N=grsN (f.groups.take i0)+clsN (G.alts.take j0):=⟨_,rfl⟩
      rw [← hN] at q2 hb8 ⊢
      have n8:b8≠bn:=fun e=>by have:=fresh_get hb8.2;rw [e,get_set_same gT] at this;cases this
      have n82:b8≠b2:=fun e=>by have:=fresh_get hb8.2;rw [e,get_set_ne n2,gT2] at this;cases this
      have n83:b8≠b3:=fun e=>by have:=fresh_get hb8.2;rw [e,get_set_ne n3,gT3] at this;cases this
      have n84:b8≠b4:=fun e=>by have:=fresh_get hb8.2;rw [e,get_set_ne n4,gT4] at this;cases this
      obtain ⟨V,hV⟩:∃ V:Store,V=(b8,.cells [.list .none 2 (Ty.embs C.vars),.list .none 2 (Ty.embs C.locals),.list .none 1 (ints C.path),vs C.name,.list .none 4 (Tm.embs C.args),.list .none 9 (FGoal.embs C.goals),.list .none 1 (bools C.lasts)])::(b6,.cells [.list .none 2 (Ty.embs G.env),.list .none 7 (FClause.embs G.alts)])::T.set bn (nV N):=⟨_,rfl⟩
      rw [← hV]
      have gV:V.get bn=some (nV N):=by rw [hV,get_other n8,get_other n6,get_set_same gT]
      have gV2:V.get b2=some (.cells [.val (adV bn)]):=by rw [hV,get_other n82,get_other n62,get_set_ne n2];exact gT2
      have gV3:V.get b3=some (.cells [.val (wtV b2 b3)]):=by rw [hV,get_other n83,get_other n63,get_set_ne n3];exact gT3
      have gV4:V.get b4=some (.cells [.val (wkV b2 b3 b4)]):=by rw [hV,get_other n84,get_other n64,get_set_ne n4];exact gT4
      have gV8:V.get b8=some (.cells [.list .none 2 (Ty.embs C.vars),.list .none 2 (Ty.embs C.locals),.list .none 1 (ints C.path),vs C.name,.list .none 4 (Tm.embs C.args),.list .none 9 (FGoal.embs C.goals),.list .none 1 (bools C.lasts)]):=by rw [hV,get_same]
      have hVb:∀ y,Sub ((b6,.cells [.list .none 2 (Ty.embs G.env),.list .none 7 (FClause.embs G.alts)])::T.set bn y) (V.set bn y):=fun y=>by rw [hV,set_other n8,set_other n6,set_set];exact (Sub.refl _).skip _
      have hVs:∀ y,Sub (σ.set bn y) (V.set bn y):=fun y=>by rw [hV,set_other n8,set_other n6,set_set];exact ((hTs y).skip _).skip _
      have hTot:N+clN C≤nodesN f:=by
        rw [hN,Nat.add_assoc,← hCst]
        have:nodesN f=grsN f.groups:=rfl
        omega
      have hcl:clN C=tmsN C.args+glsN C.goals+1:=rfl
      try simp only [go_sem,seval,tb157,gV2,adV]
      refine (add_c bn V N gV q2).mono ?_
      rintro w S' hw'
      unfold CntR at hw'
      by_cases hlt:N+1≤8000
      · rw [if_pos hlt] at hw'
        obtain ⟨hw1,hw2⟩:=hw'
        rw [hw1,hw2]
        obtain ⟨W,hW⟩:∃ W,W=V.set bn (nV (N+1)):=⟨_,rfl⟩
        rw [← hW]
        have gW:W.get bn=some (nV (N+1)):=by rw [hW,get_set_same gV]
        have gW2:W.get b2=some (.cells [.val (adV bn)]):=by rw [hW,get_set_ne n2];exact gV2
        have gW3:W.get b3=some (.cells [.val (wtV b2 b3)]):=by rw [hW,get_set_ne n3];exact gV3
        have gW4:W.get b4=some (.cells [.val (wkV b2 b3 b4)]):=by rw [hW,get_set_ne n4];exact gV4
        have gW8:=(get_set_ne (y:=nV (N+1)) n8).trans gV8
        rw [← hW] at gW8
        have hWs:∀ y,Sub (σ.set bn y) (W.set bn y):=fun y=>by rw [hW,set_set];exact hVs y
        have hWb:∀ y,Sub ((b6,.cells [.list .none 2 (Ty.embs G.env),.list .none 7 (FClause.embs G.alts)])::T.set bn y) (W.set bn y):=fun y=>by rw [hW,set_set];exact hVb y
        try simp only [go_sem,seval,tb157,gW8,Tm.embs_len]
        refine aloopT (mu:=[]) (dr:=[]) [10,35,36,37,38,39,40,41,42] (fun i:Nat=>[(35,vi i)]) (fun i=>W.set bn (nV (N+1+tmsN (C.args.take i)))) (fun i=>i≤C.args.length∧N+1+tmsN (C.args.take i)≤8000) (fun i=>C.args.length-i) 0 (by kernel_rfl) ⟨by omega,by simp only [List.take_zero,tmsN];omega⟩ ⟨.refl _,trivial⟩ (by simp only [List.take_zero,tmsN,Nat.add_zero];rw [set_self gW];exact .refl _) ?_
        rintro i ⟨i1,i2⟩
        try simp only [go_sem,seval,tb157,Tm.embs_len,get_set_ne n8,gW8,FGoal.embs_len]
        refine ⟨fun h1=>⟨by omega,h1,fun c hc=>?_⟩,fun h1=>?_⟩
        · rw [Int.toNat_natCast] at hc
          obtain ⟨x,hx,rfl⟩:=Tm.embs_get hc
          have hst:=tmsN_step hx
          have hle:=tmsN_le C.args (i+1)
          have hcall:=(wt_c bn b2 b3 x)
          generalize tmN x=nx at hcall hst
          obtain ⟨k',n',s',l'⟩:=x
          simp only [Tm.emb_mk] at hcall
          try simp only [go_sem,seval,tb157,Tm.emb_mk]
          intro bt hbt
          have nbt:bt≠bn:=fun e=>by have:=fresh_get hbt;rw [e,get_set_same gW] at this;cases this
          have nb2:bt≠b2:=fun e=>by have:=fresh_get hbt;rw [e,get_set_ne n2,gW2] at this;cases this
          have nb3:bt≠b3:=fun e=>by have:=fresh_get hbt;rw [e,get_set_ne n3,gW3] at this;cases this
          try simp only [go_sem,seval,tb157,get_other nb3,get_set_ne n3,gW3,wtV]
          refine (hcall _ _ (by rw [get_other nbt,get_set_same gW]) (by rw [get_other nb2,get_set_ne n2];exact gW2) (by rw [get_other nb3,get_set_ne n3];exact gW3) i2).mono ?_
          rintro w S' hw
          unfold CntR at hw
          rw [set_other nbt] at hw
          by_cases hlt2:N+1+tmsN (C.args.take i)+nx≤8000
          · rw [if_pos hlt2,set_set] at hw
            obtain ⟨hw1,hw2⟩:=hw
            rw [hw1,hw2]
            try simp only [go_sem,seval,tb157]
            rw [show IntKind.i64.wrap ((i:Int)+1)=((i+1:Nat):Int) from wrap64 (by omega) (by omega)]
            refine .mk (i+1) ⟨by omega,by rw [hst];omega⟩ (by omega) ⟨.refl _,trivial⟩ (by repeat first | exact Keeps.turn _ rfl | refine Keeps.put rfl ?_ | refine Keeps.turnS _ rfl rfl ?_) ?_
            try simp only
            rw [hst,← Nat.add_assoc]
            exact (Sub.refl _).skip _
          · rw [if_neg hlt2] at hw
            obtain ⟨hw1,m,hw2⟩:=hw
            rw [hw1,hw2,set_other nbt,set_set]
            try simp only [go_sem,seval,tb157]
            refine .mk ((hWs _).skip _) ?_
            unfold CntR
            rw [if_neg (by omega)]
            exact ⟨rfl,m,rfl⟩
        have hil:C.args.take i=C.args:=List.take_of_length_le (by omega)
        rw [hil] at i2 ⊢
        obtain ⟨U,hU⟩:∃ U,U=W.set bn (nV (N+1+tmsN C.args)):=⟨_,rfl⟩
        rw [← hU]
        have gU:U.get bn=some (nV (N+1+tmsN C.args)):=by rw [hU,get_set_same gW]
        have gU2:U.get b2=some (.cells [.val (adV bn)]):=by rw [hU,get_set_ne n2];exact gW2
        have gU3:U.get b3=some (.cells [.val (wtV b2 b3)]):=by rw [hU,get_set_ne n3];exact gW3
        have gU4:U.get b4=some (.cells [.val (wkV b2 b3 b4)]):=by rw [hU,get_set_ne n4];exact gW4
        have gU8:=(get_set_ne (y:=nV (N+1+tmsN C.args)) n8).trans gW8
        rw [← hU] at gU8
        have hUs:∀ y,Sub (σ.set bn y) (U.set bn y):=fun y=>by rw [hU,set_set];exact hWs y
        have hUb:∀ y,Sub ((b6,.cells [.list .none 2 (Ty.embs G.env),.list .none 7 (FClause.embs G.alts)])::T.set bn y) (U.set bn y):=fun y=>by rw [hU,set_set];exact hWb y
        try simp only [go_sem,seval,tb157,gU8,FGoal.embs_len]
        refine aloopT (mu:=[]) (dr:=[]) [12,46,47,48,49,50,51,52,53] (fun i:Nat=>[(46,vi i)]) (fun i=>U.set bn (nV (N+1+tmsN C.args+glsN (C.goals.take i)))) (fun i=>i≤C.goals.length∧N+1+tmsN C.args+glsN (C.goals.take i)≤8000) (fun i=>C.goals.length-i) 0 (by kernel_rfl) ⟨by omega,by simp only [List.take_zero,glsN];omega⟩ ⟨.refl _,trivial⟩ (by simp only [List.take_zero,glsN,Nat.add_zero];rw [set_self gU];exact .refl _) ?_
        rintro i ⟨i1,i2⟩
        try simp only [go_sem,seval,tb157,FGoal.embs_len,get_set_ne n8,gU8]
        refine ⟨fun h1=>⟨by omega,h1,fun c hc=>?_⟩,fun h1=>?_⟩
        · rw [Int.toNat_natCast] at hc
          obtain ⟨x,hx,rfl⟩:=FGoal.embs_get hc
          have hst:=glsN_step hx
          have hle:=glsN_le C.goals (i+1)
          have hcall:=(wk_c bn b2 b3 b4 x)
          generalize glN x=nx at hcall hst
          obtain ⟨k',s',a',⟨ts',tl'⟩,l',n',g',e'⟩:=x
          simp only [FGoal.emb_mk] at hcall
          try simp only [go_sem,seval,tb157,FGoal.emb_mk]
          intro bt hbt
          have nbt:bt≠bn:=fun e=>by have:=fresh_get hbt;rw [e,get_set_same gU] at this;cases this
          have nb2:bt≠b2:=fun e=>by have:=fresh_get hbt;rw [e,get_set_ne n2,gU2] at this;cases this
          have nb3:bt≠b3:=fun e=>by have:=fresh_get hbt;rw [e,get_set_ne n3,gU3] at this;cases this
          have nb4:bt≠b4:=fun e=>by have:=fresh_get hbt;rw [e,get_set_ne n4,gU4] at this;cases this
          try simp only [go_sem,seval,tb157,get_other nb4,get_set_ne n4,gU4,wkV]
          refine (hcall _ _ (by rw [get_other nbt,get_set_same gU]) (by rw [get_other nb2,get_set_ne n2];exact gU2) (by rw [get_other nb3,get_set_ne n3];exact gU3) (by rw [get_other nb4,get_set_ne n4];exact gU4) i2).mono ?_
          rintro w S' hw
          unfold CntR at hw
          rw [set_other nbt] at hw
          by_cases hlt2:N+1+tmsN C.args+glsN (C.goals.take i)+nx≤8000
          · rw [if_pos hlt2,set_set] at hw
            obtain ⟨hw1,hw2⟩:=hw
            rw [hw1,hw2]
            try simp only [go_sem,seval,tb157]
            rw [show IntKind.i64.wrap ((i:Int)+1)=((i+1:Nat):Int) from wrap64 (by omega) (by omega)]
            refine .mk (i+1) ⟨by omega,by rw [hst];omega⟩ (by omega) ⟨.refl _,trivial⟩ (by repeat first | exact Keeps.turn _ rfl | refine Keeps.put rfl ?_ | refine Keeps.turnS _ rfl rfl ?_) ?_
            try simp only
            rw [hst,← Nat.add_assoc]
            exact (Sub.refl _).skip _
          · rw [if_neg hlt2] at hw
            obtain ⟨hw1,m,hw2⟩:=hw
            rw [hw1,hw2,set_other nbt,set_set]
            try simp only [go_sem,seval,tb157]
            refine .mk ((hUs _).skip _) ?_
            unfold CntR
            rw [if_neg (by omega)]
            exact ⟨rfl,m,rfl⟩
        have hil:C.goals.take i=C.goals:=List.take_of_length_le (by omega)
        rw [hil] at i2 ⊢
        try simp only [go_sem,seval,tb157]
        rw [hw j0 (by omega)]
        have hval:N+1+tmsN C.args+glsN C.goals=grsN (f.groups.take i0)+clsN (G.alts.take (j0+1)):=by rw [hCst];omega
        refine .mk (j0+1) ⟨by omega,by omega⟩ (by omega) ⟨.refl _,trivial⟩ (by repeat first | exact Keeps.turn _ rfl | refine Keeps.put rfl ?_ | refine Keeps.turnS _ rfl rfl ?_) ?_
        try simp only
        rw [← hval]
        exact hUb _
      · rw [if_neg hlt] at hw'
        obtain ⟨hw1,m,hw2⟩:=hw'
        rw [hw1,hw2]
        try simp only [go_sem,seval,tb157]
        refine .mk (hVs _) ?_
        unfold CntR
        rw [if_neg (by omega)]
        exact ⟨rfl,m,rfl⟩
    · have hil:G.alts.take j0=G.alts:=List.take_of_length_le (by omega)
      rw [hil] at q2 ⊢
      try simp only [go_sem,seval,tb157]
      rw [hw i0 (by omega)]
      refine .mk (i0+1) ⟨by omega,by omega⟩ (by omega) ⟨.refl _,trivial⟩ (by repeat first | exact Keeps.turn _ rfl | refine Keeps.put rfl ?_ | refine Keeps.turnS _ rfl rfl ?_) ?_
      try simp only
      rw [hGst]
      exact (Sub.refl _).skip _
  · have hil:f.groups.take i0=f.groups:=List.take_of_length_le (by omega)
    rw [hil] at p2 ⊢
    try simp only [go_sem,seval,tb157]
    refine .mk (.refl _) (hTs _) ?_
    unfold CntR
    have:nodesN f=grsN f.groups:=rfl
    rw [if_pos (by omega),Nat.zero_add]
    exact ⟨rfl,rfl⟩
def nodesS (f:Flat):Int:=if nodesN f≤8000 then (nodesN f:Int) else 8001
theorem nodes_c (f:Flat):Pur Tryz.prog 128 [.agg f.emb] (vi (nodesS f)):=by
  intro σ
  refine ACalls.ok (by kernel_rfl) (fun hok=>?_)
  have hf:=hok _ List.mem_cons_self
  clear hok
  have hw:=nodes1_c f hf
  unfold nodesS
  generalize nodesN f=N at hw ⊢
  simp only [Flat.emb] at hw ⊢
  refine acalls_of [1] [] Tryz.func128 rfl (by kernel_rfl) ?_;rw [Tryz.ntmps128,Tryz.results128]
  try simp only [go_sem,seval,tb128]
  intro b1 hb1
  try simp only [go_sem,seval,tb128]
  intro b3 hb3
  try simp only [go_sem,seval,tb128]
  have n31:b3≠b1:=Ne.symm hb3.1
  refine cguarded_c _ _ _ (fun b hb=>?_)
  rw [inv_of]
  have nb3:b≠b3:=Ne.symm hb.1
  have nb1:b≠b1:=Ne.symm hb.2.1
  refine (hw b3 b1 _ (by rw [get_other nb3,get_same];rfl) (by rw [get_other nb1,get_other n31,get_same])).mono ?_
  rintro r σ' h
  unfold CntR at h
  rw [Nat.zero_add] at h
  by_cases hN:N≤8000
  · rw [if_pos hN] at h ⊢
    obtain ⟨h1,h2⟩:=h
    refine ⟨_,by rw [h2,set_other nb3,set_same],?_⟩
    rw [h1]
    try simp only [go_sem,seval,tb128,nV]
    exact fin_pur (.refl _) (((Sub.refl σ).skip _).skip _)
  · rw [if_neg hN] at h ⊢
    obtain ⟨h1,m,h2⟩:=h
    refine ⟨_,by rw [h2,set_other nb3,set_same],?_⟩
    rw [h1]
    refine ⟨2,rfl,?_⟩
    try simp only [go_sem,seval,tb128,nV]
    exact fin_pur (.refl _) (((Sub.refl σ).skip _).skip _)
end Go.Vx
