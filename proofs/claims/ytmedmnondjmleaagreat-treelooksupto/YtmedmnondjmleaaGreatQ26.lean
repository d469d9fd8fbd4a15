/- Part Q26 of the proof of treeLooksProved: the walk of the program on abstract values, and the plain law. -/
import Derived.Test.YtmedmnondjmleaaGreatQ25
set_option linter.unusedVariables false
set_option linter.unusedSimpArgs false
set_option maxRecDepth 100000
namespace Go.Vx
open Go.Proofs
theorem N1:(Zl Tryz.prog 3=some (.int .i64 0))∧(Zh Tryz.prog 3=some 1)∧(Ze Tryz.prog 3=some false):=by
 refine ⟨?_,?_,?_⟩<;>first | trivial | kernel_rfl
theorem Y8:(Zl Tryz.prog 1=some .nilFunc)∧(Zh Tryz.prog 1=some 1)∧(Zl Tryz.prog 165=some .nilFunc)∧(Zh Tryz.prog 165=some 1)∧(Zl Tryz.prog 216=some .nilFunc)∧(Zh Tryz.prog 216=some 1)∧(Zz Tryz.prog 25 0=some 0)∧(Zh Tryz.prog 22=some 1)∧(Ze Tryz.prog 22=some false)∧(ZA Tryz.prog 22=some 129)∧(Zh Tryz.prog 129=some 2)∧(Ze Tryz.prog 129=some true)∧(Zl Tryz.prog 129=some (.agg #[(.slice none 0 0),(.slice none 0 0)]))∧(Zz Tryz.prog 129 1=some 1)∧(Zh Tryz.prog 127=some 1)∧(Ze Tryz.prog 127=some false)∧(ZA Tryz.prog 127=some 132)∧(Zh Tryz.prog 132=some 7)∧(Ze Tryz.prog 132=some true)∧(Zl Tryz.prog 132=some (.agg #[(.slice none 0 0),(.slice none 0 0),(.slice none 0 0),(.string ⟨#[]⟩),(.slice none 0 0),(.slice none 0 0),(.slice none 0 0)]))∧(Ze Tryz.prog 1=some false)∧(Zz Tryz.prog 132 4=some 4)∧(Zh Tryz.prog 33=some 1)∧(Ze Tryz.prog 33=some false)∧(ZA Tryz.prog 33=some 52)∧(Zh Tryz.prog 52=some 4)∧(Ze Tryz.prog 52=some true)∧(Zl Tryz.prog 52=some (.agg #[(.int .i64 0),(.int .i64 0),(.string ⟨#[]⟩),(.slice none 0 0)]))∧(Ze Tryz.prog 165=some false)∧(Zz Tryz.prog 132 5=some 5)∧(Zh Tryz.prog 130=some 1)∧(Ze Tryz.prog 130=some false)∧(ZA Tryz.prog 130=some 152)∧(Zh Tryz.prog 152=some 9)∧(Ze Tryz.prog 152=some true)∧(Zl Tryz.prog 152=some (.agg #[(.int .i64 0),(.string ⟨#[]⟩),(.slice none 0 0),(.string ⟨#[]⟩),(.slice none 0 0),(.slice none 0 0),(.int .i64 0),(.int .i64 0),(.slice none 0 0)]))∧(Ze Tryz.prog 216=some false)∧(Tryz.prog.underlying 22=some (.slice 129))∧(Tryz.prog.underlying 127=some (.slice 132))∧(Tryz.prog.underlying 33=some (.slice 52))∧(Tryz.prog.underlying 130=some (.slice 152)):=by
 refine ⟨?_,?_,?_,?_,?_,?_,?_,?_,?_,?_,?_,?_,?_,?_,?_,?_,?_,?_,?_,?_,?_,?_,?_,?_,?_,?_,?_,?_,?_,?_,?_,?_,?_,?_,?_,?_,?_,?_,?_,?_,?_⟩<;>first | trivial | kernel_rfl
theorem Gl:(Zh Tryz.prog 3=some 1)∧(Ze Tryz.prog 3=some false):=by
 refine ⟨?_,?_⟩<;>first | trivial | kernel_rfl
theorem TC:(Zh Tryz.prog 1=some 1)∧(Ze Tryz.prog 1=some false)∧(Zz Tryz.prog 52 3=some 3)∧(Zh Tryz.prog 33=some 1)∧(Ze Tryz.prog 33=some false)∧(ZA Tryz.prog 33=some 52)∧(Zh Tryz.prog 52=some 4)∧(Ze Tryz.prog 52=some true)∧(Zl Tryz.prog 52=some (.agg #[(.int .i64 0),(.int .i64 0),(.string ⟨#[]⟩),(.slice none 0 0)]))∧(Zh Tryz.prog 165=some 1)∧(Ze Tryz.prog 165=some false)∧(Tryz.prog.underlying 33=some (.slice 52)):=by
 refine ⟨?_,?_,?_,?_,?_,?_,?_,?_,?_,?_,?_,?_⟩<;>first | trivial | kernel_rfl
theorem WQ:(Zh Tryz.prog 1=some 1)∧(Ze Tryz.prog 1=some false)∧(Zz Tryz.prog 152 2=some 2)∧(Zh Tryz.prog 33=some 1)∧(Ze Tryz.prog 33=some false)∧(ZA Tryz.prog 33=some 52)∧(Zh Tryz.prog 52=some 4)∧(Ze Tryz.prog 52=some true)∧(Zl Tryz.prog 52=some (.agg #[(.int .i64 0),(.int .i64 0),(.string ⟨#[]⟩),(.slice none 0 0)]))∧(Zh Tryz.prog 165=some 1)∧(Ze Tryz.prog 165=some false)∧(Zz Tryz.prog 152 4=some 5)∧(Zh Tryz.prog 130=some 1)∧(Ze Tryz.prog 130=some false)∧(ZA Tryz.prog 130=some 152)∧(Zh Tryz.prog 152=some 9)∧(Ze Tryz.prog 152=some true)∧(Zl Tryz.prog 152=some (.agg #[(.int .i64 0),(.string ⟨#[]⟩),(.slice none 0 0),(.string ⟨#[]⟩),(.slice none 0 0),(.slice none 0 0),(.int .i64 0),(.int .i64 0),(.slice none 0 0)]))∧(Zh Tryz.prog 216=some 1)∧(Ze Tryz.prog 216=some false)∧(Tryz.prog.underlying 33=some (.slice 52))∧(Tryz.prog.underlying 130=some (.slice 152)):=by
 refine ⟨?_,?_,?_,?_,?_,?_,?_,?_,?_,?_,?_,?_,?_,?_,?_,?_,?_,?_,?_,?_,?_,?_⟩<;>first | trivial | kernel_rfl
mutual
def tmN:Tm→Nat
 | .mk _ _ _ l=>YV l+1
def YV:List Tm→Nat
 | []=>0
 | t::r=>tmN t+YV r
end
mutual
def glN:Zg→Nat
 | .mk _ _ a _ l _ _ _=>YV a+Wm l+1
def Wm:List Zg→Nat
 | []=>0
 | t::r=>glN t+Wm r
end
def clN (c:FClause):Nat:=YV c.args+Wm c.goals+1
def VW:List FClause→Nat
 | []=>0
 | c::r=>clN c+VW r
def W6:List FGroup→Nat
 | []=>0
 | g::r=>VW g.alts+W6 r
def WW (f:Flat):Nat:=W6 f.groups
theorem NV (l m:List Tm):YV (l++m)=YV l+YV m:=by
 induction l with
 | nil=>simp [YV]
 | cons a r ih=>simp only [List.cons_append,YV,ih];omega
theorem Si {l:List Tm}{i:Nat}{x:Tm}(h:l[i]?=some x):YV (l.take (i+1))=YV (l.take i)+tmN x:=by
 rw [List.take_add_one,h,Option.toList_some,NV];simp [YV]
theorem OE (l:List Tm)(i:Nat):YV (l.take i)≤YV l:=by
 have:=NV (l.take i) (l.drop i)
 rw [List.take_append_drop] at this;omega
theorem MG (l m:List Zg):Wm (l++m)=Wm l+Wm m:=by
 induction l with
 | nil=>simp [Wm]
 | cons a r ih=>simp only [List.cons_append,Wm,ih];omega
theorem Oi {l:List Zg}{i:Nat}{x:Zg}(h:l[i]?=some x):Wm (l.take (i+1))=Wm (l.take i)+glN x:=by
 rw [List.take_add_one,h,Option.toList_some,MG];simp [Wm]
theorem JN (l:List Zg)(i:Nat):Wm (l.take i)≤Wm l:=by
 have:=MG (l.take i) (l.drop i)
 rw [List.take_append_drop] at this;omega
theorem MP (l m:List FClause):VW (l++m)=VW l+VW m:=by
 induction l with
 | nil=>simp [VW]
 | cons a r ih=>simp only [List.cons_append,VW,ih];omega
theorem Ho {l:List FClause}{i:Nat}{x:FClause}(h:l[i]?=some x):VW (l.take (i+1))=VW (l.take i)+clN x:=by
 rw [List.take_add_one,h,Option.toList_some,MP];simp [VW]
theorem CK (l:List FClause)(i:Nat):VW (l.take i)≤VW l:=by
 have:=MP (l.take i) (l.drop i)
 rw [List.take_append_drop] at this;omega
theorem MD (l m:List FGroup):W6 (l++m)=W6 l+W6 m:=by
 induction l with
 | nil=>simp [W6]
 | cons a r ih=>simp only [List.cons_append,W6,ih];omega
theorem Ha {l:List FGroup}{i:Nat}{x:FGroup}(h:l[i]?=some x):W6 (l.take (i+1))=W6 (l.take i)+VW x.alts:=by
 rw [List.take_add_one,h,Option.toList_some,MD];simp [W6]
theorem Cw (l:List FGroup)(i:Nat):W6 (l.take i)≤W6 l:=by
 have:=MD (l.take i) (l.drop i)
 rw [List.take_append_drop] at this;omega
def nV (n:Nat):AObj:=.cells [vi (n:Int)]
def adV (bn:Nat):Value:=.func (.func 158) #[] #[.pointer (some ⟨bn,0,none⟩)]
def wtV (b2 b3:Nat):Value:=.func (.func 160) #[] #[.pointer (some ⟨b2,0,none⟩),.pointer (some ⟨b3,0,none⟩)]
def wkV (b2 b3 b4:Nat):Value:=.func (.func 161) #[] #[.pointer (some ⟨b2,0,none⟩),.pointer (some ⟨b3,0,none⟩),.pointer (some ⟨b4,0,none⟩)]
def Wy (bn:Nat)(σ:Store)(n k:Nat):ZO→Store→Prop:=fun r S' =>
 if n+k≤8000 then r=.ret (.tup [])∧S'=σ.set bn (nV (n+k)) else r=.pan (VY 2)∧∃ m,S'=σ.set bn (nV m)
theorem Du (bn:Nat)(σ:Store)(n:Nat)(gn:σ.get bn=some (nV n))(hn:n≤8000):Zj Tryz.prog 158 [.val (.pointer (some ⟨bn,0,none⟩))] σ (Wy bn σ n 1):=by
 have gn':=gn
 unfold nV at gn'
 have hw:IntKind.i64.wrap ((n:Int)+1)=((n+1:Nat):Int):=Zp (by omega) (by omega)
 refine Zc [] [] Tryz.func158 rfl (by kernel_rfl) ?_;rw [Tryz.ntmps158,Tryz.results158]
 try simp only [go_sem,seval,Gl,gn',Zd gn',hw]
 refine Hn (fun hm=>?_) (fun hm=>?_)
 ·try simp only [go_sem,seval,Gl]
  have:n+1≤8000:=by have:=of_decide_eq_true hm;omega
  refine .mk (.refl _) (.refl _) ?_
  unfold Wy
  rw [if_pos this]
  exact ⟨rfl,rfl⟩
 ·try simp only [go_sem,seval,Gl]
  have:¬ n+1≤8000:=by have:=of_decide_eq_false hm;omega
  refine .mk (.refl _) ?_
  unfold Wy
  rw [if_neg this]
  exact ⟨rfl,n+1,rfl⟩
theorem au (bn b2 b3:Nat)(t:Tm):∀ (σ:Store) (n:Nat),σ.get bn=some (nV n)→σ.get b2=some (.cells [.val (adV bn)])→σ.get b3=some (.cells [.val (wtV b2 b3)])→n≤8000 →
 Zj Tryz.prog 160 [.agg t.emb,.val (.pointer (some ⟨b2,0,none⟩)),.val (.pointer (some ⟨b3,0,none⟩))] σ (Wy bn σ n (tmN t)):=by
 induction t using dE with | h k nn s l ih=>?_
 intro σ n gn g2 g3 hn
 refine Zj.ok (by kernel_rfl) (fun hok=>?_)
 have hlen:=(((hok _ List.mem_cons_self).agg (c:=.list .none 4 (cH l)) (by simp [co])).len)
 rw [ci] at hlen
 clear hok
 have n2:b2≠bn:=fun e=>by rw [e,gn] at g2;cases g2
 have n3:b3≠bn:=fun e=>by rw [e,gn] at g3;cases g3
 simp only [co]
 rw [tmN]
 have g2':=g2
 unfold adV at g2'
 have g3':=g3
 unfold wtV at g3'
 refine Zc [] [] Tryz.func160 rfl (by kernel_rfl) ?_;rw [Tryz.ntmps160,Tryz.results160]
 try simp only [go_sem,seval,TC,g2']
 refine (Du bn σ n gn hn).mono ?_
 rintro w S' hw
 unfold Wy at hw
 by_cases hlt:n+1≤8000
 ·rw [if_pos hlt] at hw
  obtain ⟨hw1,hw2⟩:=hw
  rw [hw1,hw2]
  try simp only [go_sem,seval,TC,ci]
  obtain ⟨T,hT⟩:∃ T,T=σ.set bn (nV (n+1)):=⟨_,rfl⟩
  rw [← hT]
  have gT:T.get bn=some (nV (n+1)):=by rw [hT,Zd gn]
  have gT2:T.get b2=some (.cells [.val (adV bn)]):=by rw [hT,Zb n2];exact g2
  have gT3:T.get b3=some (.cells [.val (wtV b2 b3)]):=by rw [hT,Zb n3];exact g3
  have hTs:∀ y,Sub (σ.set bn y) (T.set bn y):=fun y=>by rw [hT,Zw];exact .refl _
  have htot:∀ m,m≤YV l→n+1+m≤n+(YV l+1):=fun m hm=>by omega
  refine Zv (mu:=[]) (dr:=[]) [5,11,12,13,14,15,16,17,18] (fun i:Nat=>[(11,vi i)]) (fun i=>T.set bn (nV (n+1+YV (l.take i)))) (fun i=>i≤l.length∧n+1+YV (l.take i)≤8000) (fun i=>l.length-i) 0 (by kernel_rfl) ⟨by omega,by simp only [List.take_zero,YV];omega⟩ ⟨.refl _,trivial⟩ (by simp only [List.take_zero,YV,Nat.add_zero];rw [Zs gT];exact .refl _) ?_
  rintro i ⟨i1,i2⟩
  try simp only [go_sem,seval,TC,ci,ci]
  refine ⟨fun h1=>⟨by omega,h1,fun c hc=>?_⟩,fun h1=>?_⟩
  ·rw [Int.toNat_natCast] at hc
   obtain ⟨x,hx,rfl⟩:=cR hc
   have hst:=Si hx
   have hle:=OE l (i+1)
   have hcall:=(ih _ (List.mem_of_getElem? hx))
   generalize tmN x=nx at hcall hst
   obtain ⟨k',n',s',l'⟩:=x
   simp only [co] at hcall
   try simp only [go_sem,seval,TC,co]
   intro bt hbt
   have nbt:bt≠bn:=fun e=>by have:=Zm hbt;rw [e,Zd gT] at this;cases this
   have nb2:bt≠b2:=fun e=>by have:=Zm hbt;rw [e,Zb n2,gT2] at this;cases this
   have nb3:bt≠b3:=fun e=>by have:=Zm hbt;rw [e,Zb n3,gT3] at this;cases this
   try simp only [go_sem,seval,TC,Za nb3,Zb n3,gT3,wtV]
   refine (hcall _ _ (by rw [Za nbt,Zd gT]) (by rw [Za nb2,Zb n2];exact gT2) (by rw [Za nb3,Zb n3];exact gT3) i2).mono ?_
   rintro w S' hw
   unfold Wy at hw
   rw [Zk nbt] at hw
   by_cases hlt2:n+1+YV (l.take i)+nx≤8000
   ·rw [if_pos hlt2,Zw] at hw
    obtain ⟨hw1,hw2⟩:=hw
    rw [hw1,hw2]
    try simp only [go_sem,seval,TC]
    rw [show IntKind.i64.wrap ((i:Int)+1)=((i+1:Nat):Int) from Zp (by omega) (by omega)]
    refine .mk (i+1) ⟨by omega,by rw [hst];omega⟩ (by omega) ⟨.refl _,trivial⟩ (by repeat first | exact Zf.turn _ rfl | refine Zf.put rfl ?_ | refine cL _ rfl rfl ?_) ?_
    try simp only
    rw [hst,← Nat.add_assoc]
    exact iH
   ·rw [if_neg hlt2] at hw
    obtain ⟨hw1,m,hw2⟩:=hw
    rw [hw1,hw2,Zk nbt,Zw]
    try simp only [go_sem,seval,TC]
    refine .mk ((hTs _).skip _) ?_
    unfold Wy
    rw [if_neg (by omega)]
    exact iF
  have hil:l.take i=l:=List.take_of_length_le (by omega)
  rw [hil] at i2 ⊢
  try simp only [go_sem,seval,TC]
  refine .mk (.refl _) (hTs _) ?_
  unfold Wy
  rw [if_pos (by omega)]
  exact ⟨rfl,by rw [show n+(YV l+1)=n+1+YV l by omega]⟩
 ·rw [if_neg hlt] at hw
  obtain ⟨hw1,m,hw2⟩:=hw
  rw [hw1,hw2]
  try simp only [go_sem,seval,TC,ci]
  refine .mk (.refl _) ?_
  unfold Wy
  rw [if_neg (by omega)]
  exact iF
theorem bP (bn b2 b3 b4:Nat)(t:Zg):∀ (σ:Store) (n:Nat),σ.get bn=some (nV n)→σ.get b2=some (.cells [.val (adV bn)])→σ.get b3=some (.cells [.val (wtV b2 b3)])→σ.get b4=some (.cells [.val (wkV b2 b3 b4)])→n≤8000 →
 Zj Tryz.prog 161 [.agg t.emb,.val (.pointer (some ⟨b2,0,none⟩)),.val (.pointer (some ⟨b3,0,none⟩)),.val (.pointer (some ⟨b4,0,none⟩))] σ (Wy bn σ n (glN t)):=by
 induction t using dB with | h k s a t l nn g e ih=>?_
 intro σ n gn g2 g3 g4 hn
 obtain ⟨ts,tl⟩:=t
 refine Zj.ok (by kernel_rfl) (fun hok=>?_)
 have hlen:=(((hok _ List.mem_cons_self).agg (c:=.list .none 9 (cN l)) (by simp [cp])).len)
 have hlea:=(((hok _ List.mem_cons_self).agg (c:=.list .none 4 (cH a)) (by simp [cp])).len)
 rw [cg] at hlen
 rw [ci] at hlea
 clear hok
 have n2:b2≠bn:=fun e=>by rw [e,gn] at g2;cases g2
 have n3:b3≠bn:=fun e=>by rw [e,gn] at g3;cases g3
 have n4:b4≠bn:=fun e=>by rw [e,gn] at g4;cases g4
 simp only [cp]
 rw [glN]
 have g2':=g2
 unfold adV at g2'
 refine Zc [] [] Tryz.func161 rfl (by kernel_rfl) ?_;rw [Tryz.ntmps161,Tryz.results161]
 try simp only [go_sem,seval,WQ,g2']
 refine (Du bn σ n gn hn).mono ?_
 rintro w S' hw
 unfold Wy at hw
 by_cases hlt:n+1≤8000
 ·rw [if_pos hlt] at hw
  obtain ⟨hw1,hw2⟩:=hw
  rw [hw1,hw2]
  try simp only [go_sem,seval,WQ,ci]
  obtain ⟨T,hT⟩:∃ T,T=σ.set bn (nV (n+1)):=⟨_,rfl⟩
  rw [← hT]
  have gT:T.get bn=some (nV (n+1)):=by rw [hT,Zd gn]
  have gT2:T.get b2=some (.cells [.val (adV bn)]):=by rw [hT,Zb n2];exact g2
  have gT3:T.get b3=some (.cells [.val (wtV b2 b3)]):=by rw [hT,Zb n3];exact g3
  have gT4:T.get b4=some (.cells [.val (wkV b2 b3 b4)]):=by rw [hT,Zb n4];exact g4
  have hTs:∀ y,Sub (σ.set bn y) (T.set bn y):=fun y=>by rw [hT,Zw];exact .refl _
  refine Zv (mu:=[]) (dr:=[]) [6,14,15,16,17,18,19,20,21] (fun i:Nat=>[(14,vi i)]) (fun i=>T.set bn (nV (n+1+YV (a.take i)))) (fun i=>i≤a.length∧n+1+YV (a.take i)≤8000) (fun i=>a.length-i) 0 (by kernel_rfl) ⟨by omega,by simp only [List.take_zero,YV];omega⟩ ⟨.refl _,trivial⟩ (by simp only [List.take_zero,YV,Nat.add_zero];rw [Zs gT];exact .refl _) ?_
  rintro i ⟨i1,i2⟩
  try simp only [go_sem,seval,WQ,ci,ci]
  refine ⟨fun h1=>⟨by omega,h1,fun c hc=>?_⟩,fun h1=>?_⟩
  ·rw [Int.toNat_natCast] at hc
   obtain ⟨x,hx,rfl⟩:=cR hc
   have hst:=Si hx
   have hle:=OE a (i+1)
   have hcall:=(au bn b2 b3 x)
   generalize tmN x=nx at hcall hst
   obtain ⟨k',n',s',l'⟩:=x
   simp only [co] at hcall
   try simp only [go_sem,seval,WQ,co]
   intro bt hbt
   have nbt:bt≠bn:=fun e=>by have:=Zm hbt;rw [e,Zd gT] at this;cases this
   have nb2:bt≠b2:=fun e=>by have:=Zm hbt;rw [e,Zb n2,gT2] at this;cases this
   have nb3:bt≠b3:=fun e=>by have:=Zm hbt;rw [e,Zb n3,gT3] at this;cases this
   try simp only [go_sem,seval,WQ,Za nb3,Zb n3,gT3,wtV]
   refine (hcall _ _ (by rw [Za nbt,Zd gT]) (by rw [Za nb2,Zb n2];exact gT2) (by rw [Za nb3,Zb n3];exact gT3) i2).mono ?_
   rintro w S' hw
   unfold Wy at hw
   rw [Zk nbt] at hw
   by_cases hlt2:n+1+YV (a.take i)+nx≤8000
   ·rw [if_pos hlt2,Zw] at hw
    obtain ⟨hw1,hw2⟩:=hw
    rw [hw1,hw2]
    try simp only [go_sem,seval,WQ]
    rw [show IntKind.i64.wrap ((i:Int)+1)=((i+1:Nat):Int) from Zp (by omega) (by omega)]
    refine .mk (i+1) ⟨by omega,by rw [hst];omega⟩ (by omega) ⟨.refl _,trivial⟩ (by repeat first | exact Zf.turn _ rfl | refine Zf.put rfl ?_ | refine cL _ rfl rfl ?_) ?_
    try simp only
    rw [hst,← Nat.add_assoc]
    exact iH
   ·rw [if_neg hlt2] at hw
    obtain ⟨hw1,m,hw2⟩:=hw
    rw [hw1,hw2,Zk nbt,Zw]
    try simp only [go_sem,seval,WQ]
    refine .mk ((hTs _).skip _) ?_
    unfold Wy
    rw [if_neg (by omega)]
    exact iF
  have hil:a.take i=a:=List.take_of_length_le (by omega)
  rw [hil] at i2 ⊢
  obtain ⟨U,hU⟩:∃ U,U=T.set bn (nV (n+1+YV a)):=⟨_,rfl⟩
  rw [← hU]
  have gU:U.get bn=some (nV (n+1+YV a)):=by rw [hU,Zd gT]
  have gU2:U.get b2=some (.cells [.val (adV bn)]):=by rw [hU,Zb n2];exact gT2
  have gU3:U.get b3=some (.cells [.val (wtV b2 b3)]):=by rw [hU,Zb n3];exact gT3
  have gU4:U.get b4=some (.cells [.val (wkV b2 b3 b4)]):=by rw [hU,Zb n4];exact gT4
  have hUs:∀ y,Sub (σ.set bn y) (U.set bn y):=fun y=>by rw [hU,Zw];exact hTs y
  clear hT gT gT2 gT3 hTs hU
  try simp only [go_sem,seval,WQ,cg]
  refine Zv (mu:=[]) (dr:=[]) [8,25,26,27,28,29,30,31,32] (fun i:Nat=>[(25,vi i)]) (fun i=>U.set bn (nV (n+1+YV a+Wm (l.take i)))) (fun i=>i≤l.length∧n+1+YV a+Wm (l.take i)≤8000) (fun i=>l.length-i) 0 (by kernel_rfl) ⟨by omega,by simp only [List.take_zero,Wm];omega⟩ ⟨.refl _,trivial⟩ (by simp only [List.take_zero,Wm,Nat.add_zero];rw [Zs gU];exact .refl _) ?_
  rintro i ⟨i1,i2⟩
  try simp only [go_sem,seval,WQ,cg,ci]
  refine ⟨fun h1=>⟨by omega,h1,fun c hc=>?_⟩,fun h1=>?_⟩
  ·rw [Int.toNat_natCast] at hc
   obtain ⟨x,hx,rfl⟩:=cQ hc
   have hst:=Oi hx
   have hle:=JN l (i+1)
   have hcall:=(ih _ (List.mem_of_getElem? hx))
   generalize glN x=nx at hcall hst
   obtain ⟨k',s',a',⟨ts',tl'⟩,l',n',g',e'⟩:=x
   simp only [cp] at hcall
   try simp only [go_sem,seval,WQ,cp]
   intro bt hbt
   have nbt:bt≠bn:=fun e=>by have:=Zm hbt;rw [e,Zd gU] at this;cases this
   have nb2:bt≠b2:=fun e=>by have:=Zm hbt;rw [e,Zb n2,gU2] at this;cases this
   have nb3:bt≠b3:=fun e=>by have:=Zm hbt;rw [e,Zb n3,gU3] at this;cases this
   have nb4:bt≠b4:=fun e=>by have:=Zm hbt;rw [e,Zb n4,gU4] at this;cases this
   try simp only [go_sem,seval,WQ,Za nb4,Zb n4,gU4,wkV]
   refine (hcall _ _ (by rw [Za nbt,Zd gU]) (by rw [Za nb2,Zb n2];exact gU2) (by rw [Za nb3,Zb n3];exact gU3) (by rw [Za nb4,Zb n4];exact gU4) i2).mono ?_
   rintro w S' hw
   unfold Wy at hw
   rw [Zk nbt] at hw
   by_cases hlt2:n+1+YV a+Wm (l.take i)+nx≤8000
   ·rw [if_pos hlt2,Zw] at hw
    obtain ⟨hw1,hw2⟩:=hw
    rw [hw1,hw2]
    try simp only [go_sem,seval,WQ]
    rw [show IntKind.i64.wrap ((i:Int)+1)=((i+1:Nat):Int) from Zp (by omega) (by omega)]
    refine .mk (i+1) ⟨by omega,by rw [hst];omega⟩ (by omega) ⟨.refl _,trivial⟩ (by repeat first | exact Zf.turn _ rfl | refine Zf.put rfl ?_ | refine cL _ rfl rfl ?_) ?_
    try simp only
    rw [hst,← Nat.add_assoc]
    exact iH
   ·rw [if_neg hlt2] at hw
    obtain ⟨hw1,m,hw2⟩:=hw
    rw [hw1,hw2,Zk nbt,Zw]
    try simp only [go_sem,seval,WQ]
    refine .mk ((hUs _).skip _) ?_
    unfold Wy
    rw [if_neg (by omega)]
    exact iF
  have hil:l.take i=l:=List.take_of_length_le (by omega)
  rw [hil] at i2 ⊢
  try simp only [go_sem,seval,WQ]
  refine .mk (.refl _) (hUs _) ?_
  unfold Wy
  rw [if_pos (by omega)]
  exact ⟨rfl,by rw [show n+(YV a+Wm l+1)=n+1+YV a+Wm l by omega]⟩
 ·rw [if_neg hlt] at hw
  obtain ⟨hw1,m,hw2⟩:=hw
  rw [hw1,hw2]
  try simp only [go_sem,seval,WQ,ci]
  refine .mk (.refl _) ?_
  unfold Wy
  rw [if_neg (by omega)]
  exact iF
theorem Fj (f:Flat)(hf:Ok (.agg f.emb))(bn bf:Nat)(σ:Store)(gn:σ.get bn=some (nV 0))(gf:σ.get bf=some (.cells f.emb)) :
 Zj Tryz.prog 157 [.val (.pointer (some ⟨bn,0,none⟩)),.val (.pointer (some ⟨bf,0,none⟩))] σ (Wy bn σ 0 (WW f)):=by
 have hgr:=hf.agg (c:=.list .none 2 (cO f.groups)) (by simp [Flat.emb])
 have hlg:=hgr.len
 rw [ck] at hlg
 have nfn:bf≠bn:=fun e=>by rw [e,gn] at gf;cases gf
 simp only [Flat.emb] at gf
 refine Zc [] [] Tryz.func157 rfl (by kernel_rfl) ?_;rw [Tryz.ntmps157,Tryz.results157]
 refine fB ?_
 intro b2 hb2
 refine fB ?_
 intro b3 hb3
 refine fB ?_
 intro b4 hb4
 refine fB ?_
 obtain ⟨T,hT⟩:∃ T:Store,T=(b4,.cells [.val (wkV b2 b3 b4)])::(b3,.cells [.val (wtV b2 b3)])::(b2,.cells [.val (adV bn)])::σ:=⟨_,rfl⟩
 rw [show ((b4,AObj.cells [.val (.func (.func 161) ⟨[]⟩ ⟨[.pointer (some ⟨b2,0,none⟩),.pointer (some ⟨b3,0,none⟩),.pointer (some ⟨b4,0,none⟩)]⟩)])::(b3,.cells [.val (.func (.func 160) ⟨[]⟩ ⟨[.pointer (some ⟨b2,0,none⟩),.pointer (some ⟨b3,0,none⟩)]⟩)])::(b2,.cells [.val (.func (.func 158) ⟨[]⟩ ⟨[.pointer (some ⟨bn,0,none⟩)]⟩)])::σ:Store)=T from hT.symm]
 have hne:∀ {b:Nat},Zx σ b→b≠bn:=fun h e=>by have:=Zm h;rw [e,gn] at this;cases this
 have hnf:∀ {b:Nat},Zx σ b→b≠bf:=fun h e=>by have:=Zm h;rw [e,gf] at this;cases this
 have n2:b2≠bn:=hne hb2
 have n3:b3≠bn:=hne hb3.2
 have n4:b4≠bn:=hne hb4.2.2
 have gT:T.get bn=some (nV 0):=by rw [hT,Za n4,Za n3,Za n2];exact gn
 have gTf:T.get bf=some (.cells [.list .none 2 (cO f.groups),.list .none 1 (Yz f.rules)]):=by rw [hT,Za (hnf hb4.2.2),Za (hnf hb3.2),Za (hnf hb2)];exact gf
 have gT4:T.get b4=some (.cells [.val (wkV b2 b3 b4)]):=by rw [hT,Zi]
 have gT3:T.get b3=some (.cells [.val (wtV b2 b3)]):=by rw [hT,Za (Ne.symm hb4.1),Zi]
 have gT2:T.get b2=some (.cells [.val (adV bn)]):=by rw [hT,Za (Ne.symm hb4.2.1),Za (Ne.symm hb3.1),Zi]
 have hTs:∀ y,Sub (σ.set bn y) (T.set bn y):=fun y=>by rw [hT,Zk n4,Zk n3,Zk n2];exact (((Sub.refl _).skip _).skip _).skip _
 clear hT
 try simp only [go_sem,seval,Y8,gTf,ck]
 have hw:∀ j:Nat,j≤137438953472→IntKind.i64.wrap ((j:Int)+1)=((j+1:Nat):Int):=fun j hj=>Zp (by omega) (by omega)
 refine Zv (mu:=[]) (dr:=[]) [6,8,10,12,19,20,21,22,23,24,25,26,27,28,29,30,31,32,33,34,35,36,37,38,39,40,41,42,43,44,45,46,47,48,49,50,51,52,53,54,55] (fun i:Nat=>[(19,vi i)]) (fun i=>T.set bn (nV (W6 (f.groups.take i)))) (fun i=>i≤f.groups.length∧W6 (f.groups.take i)≤8000) (fun i=>f.groups.length-i) 0 (by kernel_rfl) ⟨by omega,by simp only [List.take_zero,W6];omega⟩ ⟨.refl _,trivial⟩ (by simp only [List.take_zero,W6];rw [Zs gT];exact .refl _) ?_
 rintro i0 ⟨p1,p2⟩
 try simp only [go_sem,seval,Y8,ck]
 refine ⟨fun h1=>⟨by omega,h1,fun c hc=>?_⟩,fun h1=>?_⟩
 ·rw [Int.toNat_natCast] at hc
  obtain ⟨G,hG,rfl⟩:=cT hc
  have hGst:=Ha hG
  have hGle:=Cw f.groups (i0+1)
  have hGo:=hgr.mem (e:=G.emb) (List.mem_of_getElem? hc)
  have hlas:=(hGo.agg (c:=.list .none 7 (cK G.alts)) (by simp [FGroup.emb]))
  have hla:=hlas.len
  rw [cw] at hla
  try simp only [go_sem,seval,Y8,FGroup.emb]
  intro b6 hb6
  have n6:b6≠bn:=fun e=>by have:=Zm hb6;rw [e,Zd gT] at this;cases this
  have n62:b6≠b2:=fun e=>by have:=Zm hb6;rw [e,Zb n2,gT2] at this;cases this
  have n63:b6≠b3:=fun e=>by have:=Zm hb6;rw [e,Zb n3,gT3] at this;cases this
  have n64:b6≠b4:=fun e=>by have:=Zm hb6;rw [e,Zb n4,gT4] at this;cases this
  try simp only [go_sem,seval,Y8,cw]
  refine Zv (mu:=[]) (dr:=[]) [8,10,12,26,27,28,29,30,31,32,33,34,35,36,37,38,39,40,41,42,43,44,45,46,47,48,49,50,51,52,53,54] (fun i:Nat=>[(26,vi i)]) (fun i=>(b6,.cells [.list .none 2 (cJ G.env),.list .none 7 (cK G.alts)])::T.set bn (nV (W6 (f.groups.take i0)+VW (G.alts.take i)))) (fun i=>i≤G.alts.length∧W6 (f.groups.take i0)+VW (G.alts.take i)≤8000) (fun i=>G.alts.length-i) 0 (by kernel_rfl) ⟨by omega,by simp only [List.take_zero,VW];omega⟩ ⟨.refl _,trivial⟩ (by simp only [List.take_zero,VW,Nat.add_zero];exact .refl _) ?_
  rintro j0 ⟨q1,q2⟩
  try simp only [go_sem,seval,Y8,cw]
  refine ⟨fun h1=>⟨by omega,h1,fun c hc=>?_⟩,fun h1=>?_⟩
  ·rw [Int.toNat_natCast] at hc
   obtain ⟨C,hC,rfl⟩:=cZ hc
   have hCst:=Ho hC
   have hCle:=CK G.alts (j0+1)
   have hCo:=hlas.mem (e:=C.emb) (List.mem_of_getElem? hc)
   have hlen1:=(hCo.agg (c:=.list .none 4 (cH C.args)) (by simp [FClause.emb])).len
   have hlen2:=(hCo.agg (c:=.list .none 9 (cN C.goals)) (by simp [FClause.emb])).len
   rw [ci] at hlen1
   rw [cg] at hlen2
   try simp only [go_sem,seval,Y8,FClause.emb]
   intro b8 hb8
   refine fB ?_
   obtain ⟨N,hN⟩:∃ N,N=W6 (f.groups.take i0)+VW (G.alts.take j0):=⟨_,rfl⟩
   rw [← hN] at q2 hb8 ⊢
   have n8:b8≠bn:=fun e=>by have:=Zm hb8.2;rw [e,Zd gT] at this;cases this
   have n82:b8≠b2:=fun e=>by have:=Zm hb8.2;rw [e,Zb n2,gT2] at this;cases this
   have n83:b8≠b3:=fun e=>by have:=Zm hb8.2;rw [e,Zb n3,gT3] at this;cases this
   have n84:b8≠b4:=fun e=>by have:=Zm hb8.2;rw [e,Zb n4,gT4] at this;cases this
   obtain ⟨V,hV⟩:∃ V:Store,V=(b8,.cells [.list .none 2 (cJ C.vars),.list .none 2 (cJ C.locals),.list .none 1 (Yz C.path),vs C.name,.list .none 4 (cH C.args),.list .none 9 (cN C.goals),.list .none 1 (XA C.lasts)])::(b6,.cells [.list .none 2 (cJ G.env),.list .none 7 (cK G.alts)])::T.set bn (nV N):=⟨_,rfl⟩
   rw [← hV]
   have gV:V.get bn=some (nV N):=by rw [hV,Za n8,Za n6,Zd gT]
   have gV2:V.get b2=some (.cells [.val (adV bn)]):=by rw [hV,Za n82,Za n62,Zb n2];exact gT2
   have gV3:V.get b3=some (.cells [.val (wtV b2 b3)]):=by rw [hV,Za n83,Za n63,Zb n3];exact gT3
   have gV4:V.get b4=some (.cells [.val (wkV b2 b3 b4)]):=by rw [hV,Za n84,Za n64,Zb n4];exact gT4
   have gV8:V.get b8=some (.cells [.list .none 2 (cJ C.vars),.list .none 2 (cJ C.locals),.list .none 1 (Yz C.path),vs C.name,.list .none 4 (cH C.args),.list .none 9 (cN C.goals),.list .none 1 (XA C.lasts)]):=by rw [hV,Zi]
   have hVb:∀ y,Sub ((b6,.cells [.list .none 2 (cJ G.env),.list .none 7 (cK G.alts)])::T.set bn y) (V.set bn y):=fun y=>by rw [hV,Zk n8,Zk n6,Zw];exact (Sub.refl _).skip _
   have hVs:∀ y,Sub (σ.set bn y) (V.set bn y):=fun y=>by rw [hV,Zk n8,Zk n6,Zw];exact ((hTs y).skip _).skip _
   have hTot:N+clN C≤WW f:=by
    rw [hN,Nat.add_assoc,← hCst]
    have:WW f=W6 f.groups:=rfl
    omega
   have hcl:clN C=YV C.args+Wm C.goals+1:=rfl
   try simp only [go_sem,seval,Y8,gV2,adV]
   refine (Du bn V N gV q2).mono ?_
   rintro w S' hw'
   unfold Wy at hw'
   by_cases hlt:N+1≤8000
   ·rw [if_pos hlt] at hw'
    obtain ⟨hw1,hw2⟩:=hw'
    rw [hw1,hw2]
    obtain ⟨W,hW⟩:∃ W,W=V.set bn (nV (N+1)):=⟨_,rfl⟩
    rw [← hW]
    have gW:W.get bn=some (nV (N+1)):=by rw [hW,Zd gV]
    have gW2:W.get b2=some (.cells [.val (adV bn)]):=by rw [hW,Zb n2];exact gV2
    have gW3:W.get b3=some (.cells [.val (wtV b2 b3)]):=by rw [hW,Zb n3];exact gV3
    have gW4:W.get b4=some (.cells [.val (wkV b2 b3 b4)]):=by rw [hW,Zb n4];exact gV4
    have gW8:=(Zb (y:=nV (N+1)) n8).trans gV8
    rw [← hW] at gW8
    have hWs:∀ y,Sub (σ.set bn y) (W.set bn y):=fun y=>by rw [hW,Zw];exact hVs y
    have hWb:∀ y,Sub ((b6,.cells [.list .none 2 (cJ G.env),.list .none 7 (cK G.alts)])::T.set bn y) (W.set bn y):=fun y=>by rw [hW,Zw];exact hVb y
    try simp only [go_sem,seval,Y8,gW8,ci]
    refine Zv (mu:=[]) (dr:=[]) [10,35,36,37,38,39,40,41,42] (fun i:Nat=>[(35,vi i)]) (fun i=>W.set bn (nV (N+1+YV (C.args.take i)))) (fun i=>i≤C.args.length∧N+1+YV (C.args.take i)≤8000) (fun i=>C.args.length-i) 0 (by kernel_rfl) ⟨by omega,by simp only [List.take_zero,YV];omega⟩ ⟨.refl _,trivial⟩ (by simp only [List.take_zero,YV,Nat.add_zero];rw [Zs gW];exact .refl _) ?_
    rintro i ⟨i1,i2⟩
    try simp only [go_sem,seval,Y8,ci,Zb n8,gW8,cg]
    refine ⟨fun h1=>⟨by omega,h1,fun c hc=>?_⟩,fun h1=>?_⟩
    ·rw [Int.toNat_natCast] at hc
     obtain ⟨x,hx,rfl⟩:=cR hc
     have hst:=Si hx
     have hle:=OE C.args (i+1)
     have hcall:=(au bn b2 b3 x)
     generalize tmN x=nx at hcall hst
     obtain ⟨k',n',s',l'⟩:=x
     simp only [co] at hcall
     try simp only [go_sem,seval,Y8,co]
     intro bt hbt
     have nbt:bt≠bn:=fun e=>by have:=Zm hbt;rw [e,Zd gW] at this;cases this
     have nb2:bt≠b2:=fun e=>by have:=Zm hbt;rw [e,Zb n2,gW2] at this;cases this
     have nb3:bt≠b3:=fun e=>by have:=Zm hbt;rw [e,Zb n3,gW3] at this;cases this
     try simp only [go_sem,seval,Y8,Za nb3,Zb n3,gW3,wtV]
     refine (hcall _ _ (by rw [Za nbt,Zd gW]) (by rw [Za nb2,Zb n2];exact gW2) (by rw [Za nb3,Zb n3];exact gW3) i2).mono ?_
     rintro w S' hw
     unfold Wy at hw
     rw [Zk nbt] at hw
     by_cases hlt2:N+1+YV (C.args.take i)+nx≤8000
     ·rw [if_pos hlt2,Zw] at hw
      obtain ⟨hw1,hw2⟩:=hw
      rw [hw1,hw2]
      refine fB ?_
      rw [show IntKind.i64.wrap ((i:Int)+1)=((i+1:Nat):Int) from Zp (by omega) (by omega)]
      refine .mk (i+1) ⟨by omega,by rw [hst];omega⟩ (by omega) ⟨.refl _,trivial⟩ (by repeat first | exact Zf.turn _ rfl | refine Zf.put rfl ?_ | refine cL _ rfl rfl ?_) ?_
      try simp only
      rw [hst,← Nat.add_assoc]
      exact iH
     ·rw [if_neg hlt2] at hw
      obtain ⟨hw1,m,hw2⟩:=hw
      rw [hw1,hw2,Zk nbt,Zw]
      refine fB ?_
      refine .mk ((hWs _).skip _) ?_
      unfold Wy
      rw [if_neg (by omega)]
      exact iF
    have hil:C.args.take i=C.args:=List.take_of_length_le (by omega)
    rw [hil] at i2 ⊢
    obtain ⟨U,hU⟩:∃ U,U=W.set bn (nV (N+1+YV C.args)):=⟨_,rfl⟩
    rw [← hU]
    have gU:U.get bn=some (nV (N+1+YV C.args)):=by rw [hU,Zd gW]
    have gU2:U.get b2=some (.cells [.val (adV bn)]):=by rw [hU,Zb n2];exact gW2
    have gU3:U.get b3=some (.cells [.val (wtV b2 b3)]):=by rw [hU,Zb n3];exact gW3
    have gU4:U.get b4=some (.cells [.val (wkV b2 b3 b4)]):=by rw [hU,Zb n4];exact gW4
    have gU8:=(Zb (y:=nV (N+1+YV C.args)) n8).trans gW8
    rw [← hU] at gU8
    have hUs:∀ y,Sub (σ.set bn y) (U.set bn y):=fun y=>by rw [hU,Zw];exact hWs y
    have hUb:∀ y,Sub ((b6,.cells [.list .none 2 (cJ G.env),.list .none 7 (cK G.alts)])::T.set bn y) (U.set bn y):=fun y=>by rw [hU,Zw];exact hWb y
    try simp only [go_sem,seval,Y8,gU8,cg]
    refine Zv (mu:=[]) (dr:=[]) [12,46,47,48,49,50,51,52,53] (fun i:Nat=>[(46,vi i)]) (fun i=>U.set bn (nV (N+1+YV C.args+Wm (C.goals.take i)))) (fun i=>i≤C.goals.length∧N+1+YV C.args+Wm (C.goals.take i)≤8000) (fun i=>C.goals.length-i) 0 (by kernel_rfl) ⟨by omega,by simp only [List.take_zero,Wm];omega⟩ ⟨.refl _,trivial⟩ (by simp only [List.take_zero,Wm,Nat.add_zero];rw [Zs gU];exact .refl _) ?_
    rintro i ⟨i1,i2⟩
    try simp only [go_sem,seval,Y8,cg,Zb n8,gU8]
    refine ⟨fun h1=>⟨by omega,h1,fun c hc=>?_⟩,fun h1=>?_⟩
    ·rw [Int.toNat_natCast] at hc
     obtain ⟨x,hx,rfl⟩:=cQ hc
     have hst:=Oi hx
     have hle:=JN C.goals (i+1)
     have hcall:=(bP bn b2 b3 b4 x)
     generalize glN x=nx at hcall hst
     obtain ⟨k',s',a',⟨ts',tl'⟩,l',n',g',e'⟩:=x
     simp only [cp] at hcall
     try simp only [go_sem,seval,Y8,cp]
     intro bt hbt
     have nbt:bt≠bn:=fun e=>by have:=Zm hbt;rw [e,Zd gU] at this;cases this
     have nb2:bt≠b2:=fun e=>by have:=Zm hbt;rw [e,Zb n2,gU2] at this;cases this
     have nb3:bt≠b3:=fun e=>by have:=Zm hbt;rw [e,Zb n3,gU3] at this;cases this
     have nb4:bt≠b4:=fun e=>by have:=Zm hbt;rw [e,Zb n4,gU4] at this;cases this
     try simp only [go_sem,seval,Y8,Za nb4,Zb n4,gU4,wkV]
     refine (hcall _ _ (by rw [Za nbt,Zd gU]) (by rw [Za nb2,Zb n2];exact gU2) (by rw [Za nb3,Zb n3];exact gU3) (by rw [Za nb4,Zb n4];exact gU4) i2).mono ?_
     rintro w S' hw
     unfold Wy at hw
     rw [Zk nbt] at hw
     by_cases hlt2:N+1+YV C.args+Wm (C.goals.take i)+nx≤8000
     ·rw [if_pos hlt2,Zw] at hw
      obtain ⟨hw1,hw2⟩:=hw
      rw [hw1,hw2]
      refine fB ?_
      rw [show IntKind.i64.wrap ((i:Int)+1)=((i+1:Nat):Int) from Zp (by omega) (by omega)]
      refine .mk (i+1) ⟨by omega,by rw [hst];omega⟩ (by omega) ⟨.refl _,trivial⟩ (by repeat first | exact Zf.turn _ rfl | refine Zf.put rfl ?_ | refine cL _ rfl rfl ?_) ?_
      try simp only
      rw [hst,← Nat.add_assoc]
      exact iH
     ·rw [if_neg hlt2] at hw
      obtain ⟨hw1,m,hw2⟩:=hw
      rw [hw1,hw2,Zk nbt,Zw]
      refine fB ?_
      refine .mk ((hUs _).skip _) ?_
      unfold Wy
      rw [if_neg (by omega)]
      exact iF
    have hil:C.goals.take i=C.goals:=List.take_of_length_le (by omega)
    rw [hil] at i2 ⊢
    refine fB ?_
    rw [hw j0 (by omega)]
    have hval:N+1+YV C.args+Wm C.goals=W6 (f.groups.take i0)+VW (G.alts.take (j0+1)):=by rw [hCst];omega
    refine .mk (j0+1) ⟨by omega,by omega⟩ (by omega) ⟨.refl _,trivial⟩ (by repeat first | exact Zf.turn _ rfl | refine Zf.put rfl ?_ | refine cL _ rfl rfl ?_) ?_
    try simp only
    rw [← hval]
    exact hUb _
   ·rw [if_neg hlt] at hw'
    obtain ⟨hw1,m,hw2⟩:=hw'
    rw [hw1,hw2]
    refine fB ?_
    refine .mk (hVs _) ?_
    unfold Wy
    rw [if_neg (by omega)]
    exact iF
  ·have hil:G.alts.take j0=G.alts:=List.take_of_length_le (by omega)
   rw [hil] at q2 ⊢
   refine fB ?_
   rw [hw i0 (by omega)]
   refine .mk (i0+1) ⟨by omega,by omega⟩ (by omega) ⟨.refl _,trivial⟩ (by repeat first | exact Zf.turn _ rfl | refine Zf.put rfl ?_ | refine cL _ rfl rfl ?_) ?_
   try simp only
   rw [hGst]
   exact iH
 ·have hil:f.groups.take i0=f.groups:=List.take_of_length_le (by omega)
  rw [hil] at p2 ⊢
  refine fB ?_
  refine .mk (.refl _) (hTs _) ?_
  unfold Wy
  have:WW f=W6 f.groups:=rfl
  rw [if_pos (by omega),Nat.zero_add]
  exact ⟨rfl,rfl⟩
def So (f:Flat):Int:=if WW f≤8000 then (WW f:Int) else 8001
theorem D9 (f:Flat):Pur Tryz.prog 128 [.agg f.emb] (vi (So f)):=by
 intro σ
 refine Zj.ok (by kernel_rfl) (fun hok=>?_)
 have hf:=hok _ List.mem_cons_self
 clear hok
 have hw:=Fj f hf
 unfold So
 generalize WW f=N at hw ⊢
 simp only [Flat.emb] at hw ⊢
 refine Zc [1] [] Tryz.func128 rfl (by kernel_rfl) ?_;rw [Tryz.ntmps128,Tryz.results128]
 try simp only [go_sem,seval,N1]
 intro b1 hb1
 try simp only [go_sem,seval,N1]
 intro b3 hb3
 try simp only [go_sem,seval,N1]
 have n31:b3≠b1:=Ne.symm hb3.1
 refine Ky _ _ _ (fun b hb=>?_)
 rw [Y5]
 have nb3:b≠b3:=Ne.symm hb.1
 have nb1:b≠b1:=Ne.symm hb.2.1
 refine (hw b3 b1 _ (by rw [Za nb3,Zi];rfl) (by rw [Za nb1,Za n31,Zi])).mono ?_
 rintro r σ' h
 unfold Wy at h
 rw [Nat.zero_add] at h
 by_cases hN:N≤8000
 ·rw [if_pos hN] at h ⊢
  obtain ⟨h1,h2⟩:=h
  refine ⟨_,by rw [h2,Zk nb3,Z6],?_⟩
  rw [h1]
  try simp only [go_sem,seval,N1,nV]
  exact eI
 ·rw [if_neg hN] at h ⊢
  obtain ⟨h1,m,h2⟩:=h
  refine ⟨_,by rw [h2,Zk nb3,Z6],?_⟩
  rw [h1]
  refine ⟨2,rfl,?_⟩
  try simp only [go_sem,seval,N1,nV]
  exact eI
end Go.Vx
