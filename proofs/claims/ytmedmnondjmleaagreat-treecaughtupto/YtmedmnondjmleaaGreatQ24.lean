/- Part Q24 of the proof of treeCaughtProved: the walk of the program on abstract values, and the plain law. -/
import Derived.Test.YtmedmnondjmleaaGreatQ22
import Derived.Test.YtmedmnondjmleaaGreatQ23
set_option linter.unusedVariables false
set_option linter.unusedSimpArgs false
set_option maxRecDepth 100000
namespace Go.Vx
open Go.Proofs
theorem tb166:(fOff Tryz.prog 152 0=some 0)∧(szOf Tryz.prog 3=some 1)∧(aggOf Tryz.prog 3=some false)∧(fOff Tryz.prog 152 4=some 5)∧(szOf Tryz.prog 130=some 1)∧(aggOf Tryz.prog 130=some false)∧(fOff Tryz.prog 152 1=some 1)∧(szOf Tryz.prog 9=some 1)∧(aggOf Tryz.prog 9=some false)∧(fOff Tryz.prog 152 2=some 2)∧(szOf Tryz.prog 33=some 1)∧(aggOf Tryz.prog 33=some false)∧(fOff Tryz.prog 152 5=some 6)∧(fOff Tryz.prog 152 3=some 3)∧(fOff Tryz.prog 150 0=some 0)∧(fOff Tryz.prog 150 1=some 1)∧(szOf Tryz.prog 126=some 1)∧(aggOf Tryz.prog 126=some false)∧(fOff Tryz.prog 152 6=some 7)∧(fOff Tryz.prog 152 7=some 8)∧(szOf Tryz.prog 23=some 1)∧(aggOf Tryz.prog 23=some false)∧(fOff Tryz.prog 229 3=some 4)∧(fOff Tryz.prog 229 4=some 5)∧(fOff Tryz.prog 229 2=some 3)∧(szOf Tryz.prog 150=some 2)∧(aggOf Tryz.prog 150=some true)∧(elOf Tryz.prog 126=some 150)∧(zeroOf Tryz.prog 150=some (.agg #[(.string ⟨#[]⟩),(.slice none 0 0)]))∧(szOf Tryz.prog 226=some 1)∧(aggOf Tryz.prog 226=some false)∧(fOff Tryz.prog 229 1=some 2)∧(fOff Tryz.prog 229 0=some 0)∧(fOff Tryz.prog 25 0=some 0)∧(szOf Tryz.prog 22=some 1)∧(aggOf Tryz.prog 22=some false)∧(elOf Tryz.prog 22=some 129)∧(szOf Tryz.prog 129=some 2)∧(fOff Tryz.prog 129 0=some 0)∧(elOf Tryz.prog 130=some 152)∧(szOf Tryz.prog 152=some 9)∧(aggOf Tryz.prog 152=some true)∧(zeroOf Tryz.prog 152=some (.agg #[(.int .i64 0),(.string ⟨#[]⟩),(.slice none 0 0),(.string ⟨#[]⟩),(.slice none 0 0),(.slice none 0 0),(.int .i64 0),(.int .i64 0),(.slice none 0 0)]))∧(Tryz.prog.underlying 130=some (.slice 152))∧(Tryz.prog.underlying 33=some (.slice 52))∧(Tryz.prog.underlying 126=some (.slice 150))∧(Tryz.prog.underlying 23=some (.slice 3))∧(Tryz.prog.underlying 22=some (.slice 129)):=by
  refine ⟨?_,?_,?_,?_,?_,?_,?_,?_,?_,?_,?_,?_,?_,?_,?_,?_,?_,?_,?_,?_,?_,?_,?_,?_,?_,?_,?_,?_,?_,?_,?_,?_,?_,?_,?_,?_,?_,?_,?_,?_,?_,?_,?_,?_,?_,?_,?_,?_⟩<;>first | trivial | kernel_rfl
theorem lexName_c (s:Str):Pur Tryz.prog 165 [vs s] (vb (isTokB 1 s)):=by
  intro σ
  have h:Pur Tryz.prog 213 [vs s,vi 1] (vb (isTokB 1 s)):=by
    intro σ
    refine acalls_of [] [] Tryz.func213 rfl (by kernel_rfl) ?_;rw [Tryz.ntmps213,Tryz.results213]
    try simp only [go_sem,seval,tb213]
    refine (check_c 1 0 s).use ?_
    try simp only [go_sem,seval,tb213]
    refine fin_b ?_
    cases isTokB 1 s<;>simp
  refine acalls_of [] [] Tryz.func165 rfl (by kernel_rfl) ?_;rw [Tryz.ntmps165,Tryz.results165]
  try simp only [go_sem,seval,tb165]
  refine h.use ?_
  try simp only [go_sem,seval,tb165]
  exact fin_same
def partsN (k:Int):Int:=if k=1∨k=2∨k=3 then 0 else if k=4∨k=5∨k=6 then 2 else if k=9∨k=12∨k=10∨k=11∨k=7∨k=8 then 1 else -1
theorem parts_c (k:Int):Pur Tryz.prog 214 [vi k] (vi (partsN k)):=by
  intro σ
  refine acalls_of [] [] Tryz.func214 rfl (by kernel_rfl) ?_;rw [Tryz.ntmps214,Tryz.results214]
  try simp only [go_sem,seval,tb214]
  repeat first | exact fin_i (by simp_all [partsN]) | refine ⟨fun _=>?_,fun _=>?_⟩
def headB (k:Int)(s:Str)(la:Nat)(ts:Str)(tl:Nat)(ll:Nat)(n g:Int)(le:Nat):Bool :=
  decide ((ll:Int)=partsN k)&&(if k=1 then isName s else decide (s=emptyS)&&decide (la=0)) &&
  (if k=10∨k=11 then true else decide (n=0)&&decide (ts=emptyS)&&decide (tl=0))&&(if k=7∨k=8 then true else decide (g=0)&&decide (le=0))
def quantB (locals:List Ty)(base:Int)(t:Ty)(n:Int)(sn:Nat):Bool :=
  decide (n=base+sn)&&(match locals[sn]? with | some u=>formedT t&&(formedT t&&formedT u&&eqTy t u) | none=>false)
def implB (f:Flat)(grp:Int)(g:Int)(e:List Int)(A:List Int):Bool :=
  decide (grp<g)&&(decide (0≤g)&&match f.groups[g.toNat]? with | some u=>decide (e.length=u.env.length) | none=>false)&&!(e.any fun n=>!decide (n∈A))
def stepB (f:Flat)(grp:Int)(locals:List Ty)(base:Int)(k:Int)(t:Ty)(n g:Int)(e:List Int)(A:List Int)(sn:Nat):Option (List Int×Nat) :=
  if k=10∨k=11 then (if quantB locals base t n sn then some (n::A,sn+1) else none)
  else if k=7∨k=8 then (if implB f grp g e A then some (A,sn) else none)
  else some (A,sn)
mutual
def goalS (f:Flat)(grp:Int)(locals:List Ty)(base:Int):FGoal→List Int→Nat→Option Nat
  | .mk k s a t l n g e,A,sn =>
    if headB k s a.length (match t with | .mk ts _=>ts) (match t with | .mk _ tl=>tl.length) l.length n g e.length then
      match stepB f grp locals base k t n g e A sn with
      | some q=>if a.all (termB q.1) then goalsS f grp locals base l q.1 q.2 else none
      | none=>none
    else none
def goalsS (f:Flat)(grp:Int)(locals:List Ty)(base:Int):List FGoal→List Int→Nat→Option Nat
  | [],_,sn=>some sn
  | x::r,A,sn=>match goalS f grp locals base x A sn with
    | some s=>goalsS f grp locals base r A s
    | none=>none
end
theorem termB_congr {A B:List Int}(h:∀ x,x∈A↔x∈B):termB A=termB B:=by
  funext t
  simp only [termB,h]
theorem stepB_congr {f:Flat}{grp:Int}{locals:List Ty}{base k:Int}{t:Ty}{n g:Int}{e:List Int}{A B:List Int}{sn:Nat}(h:∀ x,x∈A↔x∈B) :
    (stepB f grp locals base k t n g e A sn=none∧stepB f grp locals base k t n g e B sn=none)∨∃ A' B' s,stepB f grp locals base k t n g e A sn=some (A',s)∧stepB f grp locals base k t n g e B sn=some (B',s)∧∀ x,x∈A'↔x∈B':=by
  have hi:implB f grp g e A=implB f grp g e B:=by simp only [implB,h]
  unfold stepB
  rw [hi]
  split
  · split
    · exact .inr ⟨_,_,_,rfl,rfl,by simp [h]⟩
    · exact .inl ⟨rfl,rfl⟩
  · split
    · split
      · exact .inr ⟨_,_,_,rfl,rfl,h⟩
      · exact .inl ⟨rfl,rfl⟩
    · exact .inr ⟨_,_,_,rfl,rfl,h⟩
mutual
theorem goalS_congr (f:Flat)(grp:Int)(locals:List Ty)(base:Int):∀ (x:FGoal) (A B:List Int) (sn:Nat),(∀ y,y∈A↔y∈B)→goalS f grp locals base x A sn=goalS f grp locals base x B sn
  | .mk k s a t l n g e,A,B,sn,h=>by
    simp only [goalS]
    rcases stepB_congr (f:=f) (grp:=grp) (locals:=locals) (base:=base) (k:=k) (t:=t) (n:=n) (g:=g) (e:=e) (sn:=sn) h with ⟨h1,h2⟩ | ⟨A',B',s',h1,h2,h3⟩
    · rw [h1,h2]
    · rw [h1,h2];simp only;rw [termB_congr h3,goalsS_congr f grp locals base l A' B' s' h3]
theorem goalsS_congr (f:Flat)(grp:Int)(locals:List Ty)(base:Int):∀ (x:List FGoal) (A B:List Int) (sn:Nat),(∀ y,y∈A↔y∈B)→goalsS f grp locals base x A sn=goalsS f grp locals base x B sn
  | [],A,B,sn,h=>rfl
  | x::r,A,B,sn,h=>by
    simp only [goalsS]
    rw [goalS_congr f grp locals base x A B sn h]
    cases goalS f grp locals base x B sn with
    | none=>rfl
    | some s=>exact goalsS_congr f grp locals base r A B s h
end
theorem goalsS_app (f:Flat)(grp:Int)(locals:List Ty)(base:Int)(l m:List FGoal)(A:List Int)(sn:Nat):goalsS f grp locals base (l++m) A sn=(goalsS f grp locals base l A sn).bind (goalsS f grp locals base m A):=by
  induction l generalizing sn with
  | nil=>rfl
  | cons x r ih =>
    simp only [List.cons_append,goalsS]
    cases goalS f grp locals base x A sn with
    | none=>rfl
    | some s=>exact ih s
def ckO (f:Flat)(grp:Int)(locals:List Ty)(base:Int)(sn:Nat):AObj:=.cells [.list .none 2 (FGroup.embs f.groups),.list .none 1 (ints f.rules),vi grp,.list .none 2 (Ty.embs locals),vi (base+sn),vi sn]
theorem set_self {σ:Store}{b:Nat}{x:AObj}(h:σ.get b=some x):σ.set b x=σ:=by
  induction σ with
  | nil=>rfl
  | cons p r ih =>
    obtain ⟨c,y⟩:=p
    by_cases e:c=b
    · subst e;rw [get_same] at h;injection h with h;rw [h,set_same]
    · rw [get_other e] at h;rw [set_other e,ih h]
def GoalR (f:Flat)(grp:Int)(locals:List Ty)(base:Int)(bk:Nat)(σ:Store)(o:Option Nat):ARes→Store→Prop:=fun x S'=>match o with
  | some sn'=>x=.ret (vb true)∧S'=σ.set bk (ckO f grp locals base sn')∧sn'≤locals.length
  | none=>x=.ret (vb false)∧∃ sn',S'=σ.set bk (ckO f grp locals base sn')
def GIH (f:Flat)(grp:Int)(locals:List Ty)(base:Int)(bk:Nat)(x:FGoal):Prop:=∀ (A:List Int) (sn r:Nat) (σ:Store),
    σ.get bk=some (ckO f grp locals base sn)→σ.get r=some (.map (embM keI (mapU A)) A.length)→sn≤locals.length →
    ACalls Tryz.prog 166 [.val (.pointer (some ⟨bk,0,none⟩)),.agg x.emb,.val (.map (some r))] σ (GoalR f grp locals base bk σ (goalS f grp locals base x A sn))
theorem goalA_c (f:Flat)(grp:Int)(locals:List Ty)(base:Int)(bk:Nat)(hbase:0≤base∧base≤1000000000000)(hgrp:0≤grp)(hloc:locals.length≤1000000000000)(s ts:Str)(a:List Tm)(tl:List Ty)(l:List FGoal)(n g:Int)(e:List Int)(ih:∀ x∈l,GIH f grp locals base bk x):GIH f grp locals base bk (.mk 1 s a (.mk ts tl) l n g e):=by
  obtain ⟨k,hk⟩:∃ k:Int,k=1:=⟨_,rfl⟩
  rw [← hk]
  intro A sn r σ gk gr hsn
  refine ACalls.ok (by kernel_rfl) (fun hok=>?_)
  have hlen:=(((hok _ (List.mem_cons_of_mem _ List.mem_cons_self)).agg (c:=.list .none 9 (FGoal.embs l)) (by simp [FGoal.emb_mk])).len)
  rw [FGoal.embs_len] at hlen
  clear hok
  have hp:=parts_c k
  have hn:=lexName_c s
  rw [goalS]
  simp only [FGoal.emb_mk]
  obtain ⟨bL,fL⟩:∃ b,decide ((l.length:Int)=partsN k)=b:=⟨_,rfl⟩
  obtain ⟨bN,fN⟩:∃ b,isTokB 1 s=b:=⟨_,rfl⟩
  obtain ⟨bS,fS⟩:∃ b,decide (s=emptyS)=b:=⟨_,rfl⟩
  obtain ⟨bA,fA⟩:∃ b,decide (0<(a.length:Int))=b:=⟨_,rfl⟩
  obtain ⟨bn,fn⟩:∃ b,decide (n=0)=b:=⟨_,rfl⟩
  obtain ⟨bs,fs⟩:∃ b,decide (ts=emptyS)=b:=⟨_,rfl⟩
  obtain ⟨bl,fl⟩:∃ b,decide (0<(tl.length:Int))=b:=⟨_,rfl⟩
  obtain ⟨bg,fg⟩:∃ b,decide (g=0)=b:=⟨_,rfl⟩
  obtain ⟨be,fe⟩:∃ b,decide (0<(e.length:Int))=b:=⟨_,rfl⟩
  have fA2:decide (a.length=0)=!bA:=by rw [← fA,← decide_not];exact decide_eq_decide.2 (by omega)
  have fl2:decide (tl.length=0)=!bl:=by rw [← fl,← decide_not];exact decide_eq_decide.2 (by omega)
  have fe2:decide (e.length=0)=!be:=by rw [← fe,← decide_not];exact decide_eq_decide.2 (by omega)
  rw [fN] at hn
  have gk':=gk
  unfold ckO at gk'
  obtain ⟨o,ho⟩:∃ o,stepB f grp locals base k (.mk ts tl) n g e A sn=o:=⟨_,rfl⟩
  rw [ho]
  have hfk:∀ {b:Nat},Fresh σ b→b≠bk:=fun h e=>by have:=fresh_get h;rw [e,gk] at this;cases this
  have hfr:∀ {b:Nat},Fresh σ b→b≠r:=fun h e=>by have:=fresh_get h;rw [e,gr] at this;cases this
  have hkr:bk≠r:=fun e=>by rw [e,gr] at gk;cases gk
  subst hk
  refine acalls_of [5] [(3,6,0),(8,39,0),(14,33,0)] Tryz.func166 rfl (by kernel_rfl) ?_;rw [Tryz.ntmps166,Tryz.results166]
  try simp only [go_sem,seval,tb166]
  intro b5 hb5
  try simp only [go_sem,seval,tb166,FGoal.embs_len]
  refine hp.head ?_
  try simp only [go_sem,seval,tb166,FGoal.embs_len,Tm.embs_len,Ty.embs_len,List.length_map,fL,fS,fA,fn,fs,fl,fg,fe,decide_true,decide_false,decide_not]
  cases bL
  · try simp only [go_sem,seval,tb166,FGoal.embs_len,Tm.embs_len,Ty.embs_len,List.length_map,fL,fS,fA,fn,fs,fl,fg,fe,decide_true,decide_false,decide_not]
    rw [if_neg (by simp only [headB,isName,fL,fN,fS,fA2,fn,fs,fl2,fg,fe2];simp)]
    exact .mk (.refl _) ((Sub.refl _).skip _) ⟨rfl,sn,(set_self gk).symm⟩
  try simp only [go_sem,seval,tb166,FGoal.embs_len,Tm.embs_len,Ty.embs_len,List.length_map,fL,fS,fA,fn,fs,fl,fg,fe,decide_true,decide_false,decide_not]
  refine hn.use ?_
  cases bN
  · try simp only [go_sem,seval,tb166,FGoal.embs_len,Tm.embs_len,Ty.embs_len,List.length_map,fL,fS,fA,fn,fs,fl,fg,fe,decide_true,decide_false,decide_not]
    rw [if_neg (by simp only [headB,isName,fL,fN,fS,fA2,fn,fs,fl2,fg,fe2];simp)]
    exact .mk (.refl _) ((Sub.refl _).skip _) ⟨rfl,sn,(set_self gk).symm⟩
  cases bn
  · try simp only [go_sem,seval,tb166,FGoal.embs_len,Tm.embs_len,Ty.embs_len,List.length_map,fL,fS,fA,fn,fs,fl,fg,fe,decide_true,decide_false,decide_not]
    rw [if_neg (by simp only [headB,isName,fL,fN,fS,fA2,fn,fs,fl2,fg,fe2];simp)]
    exact .mk (.refl _) ((Sub.refl _).skip _) ⟨rfl,sn,(set_self gk).symm⟩
  try simp only [go_sem,seval,tb166,FGoal.embs_len,Tm.embs_len,Ty.embs_len,List.length_map,fL,fS,fA,fn,fs,fl,fg,fe,decide_true,decide_false,decide_not]
  cases bs
  · try simp only [go_sem,seval,tb166,FGoal.embs_len,Tm.embs_len,Ty.embs_len,List.length_map,fL,fS,fA,fn,fs,fl,fg,fe,decide_true,decide_false,decide_not]
    rw [if_neg (by simp only [headB,isName,fL,fN,fS,fA2,fn,fs,fl2,fg,fe2];simp)]
    exact .mk (.refl _) ((Sub.refl _).skip _) ⟨rfl,sn,(set_self gk).symm⟩
  try simp only [go_sem,seval,tb166,FGoal.embs_len,Tm.embs_len,Ty.embs_len,List.length_map,fL,fS,fA,fn,fs,fl,fg,fe,decide_true,decide_false,decide_not]
  cases bl
  rotate_left
  · try simp only [go_sem,seval,tb166,FGoal.embs_len,Tm.embs_len,Ty.embs_len,List.length_map,fL,fS,fA,fn,fs,fl,fg,fe,decide_true,decide_false,decide_not]
    rw [if_neg (by simp only [headB,isName,fL,fN,fS,fA2,fn,fs,fl2,fg,fe2];simp)]
    exact .mk (.refl _) ((Sub.refl _).skip _) ⟨rfl,sn,(set_self gk).symm⟩
  try simp only [go_sem,seval,tb166,FGoal.embs_len,Tm.embs_len,Ty.embs_len,List.length_map,fL,fS,fA,fn,fs,fl,fg,fe,decide_true,decide_false,decide_not]
  cases bg
  · try simp only [go_sem,seval,tb166,FGoal.embs_len,Tm.embs_len,Ty.embs_len,List.length_map,fL,fS,fA,fn,fs,fl,fg,fe,decide_true,decide_false,decide_not]
    rw [if_neg (by simp only [headB,isName,fL,fN,fS,fA2,fn,fs,fl2,fg,fe2];simp)]
    exact .mk (.refl _) ((Sub.refl _).skip _) ⟨rfl,sn,(set_self gk).symm⟩
  try simp only [go_sem,seval,tb166,FGoal.embs_len,Tm.embs_len,Ty.embs_len,List.length_map,fL,fS,fA,fn,fs,fl,fg,fe,decide_true,decide_false,decide_not]
  cases be
  rotate_left
  · try simp only [go_sem,seval,tb166,FGoal.embs_len,Tm.embs_len,Ty.embs_len,List.length_map,fL,fS,fA,fn,fs,fl,fg,fe,decide_true,decide_false,decide_not]
    rw [if_neg (by simp only [headB,isName,fL,fN,fS,fA2,fn,fs,fl2,fg,fe2];simp)]
    exact .mk (.refl _) ((Sub.refl _).skip _) ⟨rfl,sn,(set_self gk).symm⟩
  try simp only [go_sem,seval,tb166,FGoal.embs_len,Tm.embs_len,Ty.embs_len,List.length_map,fL,fS,fA,fn,fs,fl,fg,fe,decide_true,decide_false,decide_not]
  try simp only [go_sem,seval,tb166,FGoal.embs_len,Tm.embs_len,Ty.embs_len,List.length_map,fL,fS,fA,fn,fs,fl,fg,fe,decide_true,decide_false,decide_not]
  have hst:o=some (A,sn):=by rw [← ho];simp [stepB]
  have hq:sn≤locals.length:=hsn
  rw [hst,if_pos (by simp only [headB,isName,fL,fN,fS,fA2,fn,fs,fl2,fg,fe2];simp [*])]
  simp only
  obtain ⟨q,hqe⟩:∃ q,q=sn:=⟨_,rfl⟩
  rw [← hqe] at hq gk ⊢
  obtain ⟨B,hBe⟩:∃ B,B=A:=⟨_,rfl⟩
  rw [← hBe] at gr ⊢
  obtain ⟨R,hRe⟩:∃ R,R=r:=⟨_,rfl⟩
  rw [← hRe] at gr hkr ⊢
  obtain ⟨T,hT⟩:∃ T:Store,T=(b5,.cells [.val (.map (some R))])::σ:=⟨_,rfl⟩
  have n5k:=hfk hb5
  have nRk:R≠bk:=Ne.symm hkr
  have hTb:∀ y,T.set bk y=(b5,.cells [.val (.map (some R))])::σ.set bk y:=fun y=>by rw [hT,set_other n5k]
  have gTR:T.get R=some (AObj.map (embM keI (mapU B)) B.length):=by rw [hT,get_other (by rw [hRe];exact hfr hb5)];exact gr
  have gT5:T.get b5=some (.cells [.val (.map (some R))]):=by rw [hT,get_same]
  have gTk:T.get bk=some (ckO f grp locals base q):=by rw [hT,get_other n5k];exact gk
  have hTs:∀ y,Sub (σ.set bk y) (T.set bk y):=fun y=>by rw [hTb];exact (Sub.refl _).skip _
  rw [← hT]
  try simp only [go_sem,seval,tb166,gT5]
  refine (terms_c B R a .none 4 (.inl rfl) T gTR).only ?_
  cases ha:a.all (termB B)
  · try simp only [go_sem,seval,tb166]
    exact .mk (.refl _) (by have:=hTs (ckO f grp locals base q);rw [set_self gTk] at this;exact this) ⟨rfl,q,rfl⟩
  try simp only [go_sem,seval,tb166]
  refine aloopT (mu:=[5]) (dr:=[(3,6,0),(8,39,0),(14,33,0)]) [6,10,207,208,209,210,211,212,213,214,215,216] (fun x:Nat×Nat=>[(207,vi x.1)]) (fun x=>T.set bk (ckO f grp locals base x.2)) (fun x=>x.1≤l.length∧x.2≤locals.length∧goalsS f grp locals base (l.take x.1) B q=some x.2) (fun x=>l.length-x.1) (0,q) (by kernel_rfl) ⟨by omega,hq,by simp [goalsS]⟩ ⟨.refl _,trivial⟩ (by rw [set_self gTk];exact .refl _) ?_
  rintro ⟨i,s1⟩ ⟨i1,i2,i3⟩
  simp only at i1 i2 i3
  try simp only [go_sem,seval,tb166,FGoal.embs_len]
  refine ⟨fun h1=>⟨by omega,h1,fun c hc=>?_⟩,fun h1=>?_⟩
  · rw [Int.toNat_natCast] at hc
    obtain ⟨x,hx,rfl⟩:=FGoal.embs_get hc
    have ihx:=ih x (List.mem_of_getElem? hx) B s1 R
    have hsp:=split_at hx
    have hgs:goalsS f grp locals base (l.take (i+1)) B q=goalS f grp locals base x B s1:=by
      rw [List.take_add_one,hx,Option.toList_some,goalsS_app,i3]
      simp only [Option.bind_some,goalsS]
      cases goalS f grp locals base x B s1<;>rfl
    generalize goalS f grp locals base x B s1=gx at ihx hgs
    obtain ⟨k',s',a',⟨ts',tl'⟩,l',n',g',e'⟩:=x
    simp only [FGoal.emb_mk] at ihx
    try simp only [go_sem,seval,tb166,FGoal.emb_mk]
    intro b10 hb10
    have n10k:b10≠bk:=fun e=>by have:=fresh_get hb10;rw [e,get_set_same gTk] at this;cases this
    have n10R:b10≠R:=fun e=>by have:=fresh_get hb10;rw [e,get_set_ne nRk,gTR] at this;cases this
    have n105:b10≠b5:=fun e=>by have:=fresh_get hb10;rw [e,get_set_ne n5k,gT5] at this;cases this
    try simp only [go_sem,seval,tb166,get_other n105,get_set_ne n5k,gT5]
    refine (ihx _ (by rw [get_other n10k,get_set_same gTk]) (by rw [get_other n10R,get_set_ne nRk,gTR]) i2).mono ?_
    rintro w S' hw
    cases gx with
    | none =>
      obtain ⟨hw1,s2,hw2⟩:=hw
      rw [hw1,hw2,set_other n10k,set_set]
      try simp only [go_sem,seval,tb166]
      have hn:goalsS f grp locals base l B q=none:=by
        have:=List.take_append_drop (i+1) l
        rw [← this,goalsS_app,hgs];rfl
      rw [hn]
      exact .mk (.refl _) ((hTs _).skip _) ⟨rfl,s2,rfl⟩
    | some s2 =>
      obtain ⟨hw1,hw2,hw3⟩:=hw
      rw [hw1,hw2,set_other n10k,set_set]
      try simp only [go_sem,seval,tb166]
      rw [show IntKind.i64.wrap ((i:Int)+1)=((i+1:Nat):Int) from wrap64 (by omega) (by omega)]
      exact .mk (i+1,s2) ⟨by omega,hw3,hgs⟩ (by simp only;omega) ⟨.refl _,trivial⟩ (by repeat first | exact Keeps.turn _ rfl | refine Keeps.put rfl ?_) ((Sub.refl _).skip _)
  · have hil:l.take i=l:=List.take_of_length_le (by omega)
    rw [hil] at i3
    rw [i3]
    exact .mk (.refl _) (hTs _) ⟨rfl,rfl,i2⟩
theorem goalQ10_c (f:Flat)(grp:Int)(locals:List Ty)(base:Int)(bk:Nat)(hbase:0≤base∧base≤1000000000000)(hgrp:0≤grp)(hloc:locals.length≤1000000000000)(s ts:Str)(a:List Tm)(tl:List Ty)(l:List FGoal)(n g:Int)(e:List Int)(ih:∀ x∈l,GIH f grp locals base bk x):GIH f grp locals base bk (.mk 10 s a (.mk ts tl) l n g e):=by
  obtain ⟨k,hk⟩:∃ k:Int,k=10:=⟨_,rfl⟩
  rw [← hk]
  intro A sn r σ gk gr hsn
  refine ACalls.ok (by kernel_rfl) (fun hok=>?_)
  have hlen:=(((hok _ (List.mem_cons_of_mem _ List.mem_cons_self)).agg (c:=.list .none 9 (FGoal.embs l)) (by simp [FGoal.emb_mk])).len)
  rw [FGoal.embs_len] at hlen
  clear hok
  have hp:=parts_c k
  have hn:=lexName_c s
  rw [goalS]
  simp only [FGoal.emb_mk]
  obtain ⟨bL,fL⟩:∃ b,decide ((l.length:Int)=partsN k)=b:=⟨_,rfl⟩
  obtain ⟨bN,fN⟩:∃ b,isTokB 1 s=b:=⟨_,rfl⟩
  obtain ⟨bS,fS⟩:∃ b,decide (s=emptyS)=b:=⟨_,rfl⟩
  obtain ⟨bA,fA⟩:∃ b,decide (0<(a.length:Int))=b:=⟨_,rfl⟩
  obtain ⟨bn,fn⟩:∃ b,decide (n=0)=b:=⟨_,rfl⟩
  obtain ⟨bs,fs⟩:∃ b,decide (ts=emptyS)=b:=⟨_,rfl⟩
  obtain ⟨bl,fl⟩:∃ b,decide (0<(tl.length:Int))=b:=⟨_,rfl⟩
  obtain ⟨bg,fg⟩:∃ b,decide (g=0)=b:=⟨_,rfl⟩
  obtain ⟨be,fe⟩:∃ b,decide (0<(e.length:Int))=b:=⟨_,rfl⟩
  have fA2:decide (a.length=0)=!bA:=by rw [← fA,← decide_not];exact decide_eq_decide.2 (by omega)
  have fl2:decide (tl.length=0)=!bl:=by rw [← fl,← decide_not];exact decide_eq_decide.2 (by omega)
  have fe2:decide (e.length=0)=!be:=by rw [← fe,← decide_not];exact decide_eq_decide.2 (by omega)
  rw [fN] at hn
  have gk':=gk
  unfold ckO at gk'
  obtain ⟨o,ho⟩:∃ o,stepB f grp locals base k (.mk ts tl) n g e A sn=o:=⟨_,rfl⟩
  rw [ho]
  have hfk:∀ {b:Nat},Fresh σ b→b≠bk:=fun h e=>by have:=fresh_get h;rw [e,gk] at this;cases this
  have hfr:∀ {b:Nat},Fresh σ b→b≠r:=fun h e=>by have:=fresh_get h;rw [e,gr] at this;cases this
  have hkr:bk≠r:=fun e=>by rw [e,gr] at gk;cases gk
  subst hk
  refine acalls_of [5] [(3,6,0),(8,39,0),(14,33,0)] Tryz.func166 rfl (by kernel_rfl) ?_;rw [Tryz.ntmps166,Tryz.results166]
  try simp only [go_sem,seval,tb166]
  intro b5 hb5
  try simp only [go_sem,seval,tb166,FGoal.embs_len]
  refine hp.head ?_
  try simp only [go_sem,seval,tb166,FGoal.embs_len,Tm.embs_len,Ty.embs_len,List.length_map,fL,fS,fA,fn,fs,fl,fg,fe,decide_true,decide_false,decide_not]
  cases bL
  · try simp only [go_sem,seval,tb166,FGoal.embs_len,Tm.embs_len,Ty.embs_len,List.length_map,fL,fS,fA,fn,fs,fl,fg,fe,decide_true,decide_false,decide_not]
    rw [if_neg (by simp only [headB,isName,fL,fN,fS,fA2,fn,fs,fl2,fg,fe2];simp)]
    exact .mk (.refl _) ((Sub.refl _).skip _) ⟨rfl,sn,(set_self gk).symm⟩
  try simp only [go_sem,seval,tb166,FGoal.embs_len,Tm.embs_len,Ty.embs_len,List.length_map,fL,fS,fA,fn,fs,fl,fg,fe,decide_true,decide_false,decide_not]
  cases bS
  · try simp only [go_sem,seval,tb166,FGoal.embs_len,Tm.embs_len,Ty.embs_len,List.length_map,fL,fS,fA,fn,fs,fl,fg,fe,decide_true,decide_false,decide_not]
    rw [if_neg (by simp only [headB,isName,fL,fN,fS,fA2,fn,fs,fl2,fg,fe2];simp)]
    exact .mk (.refl _) ((Sub.refl _).skip _) ⟨rfl,sn,(set_self gk).symm⟩
  try simp only [go_sem,seval,tb166,FGoal.embs_len,Tm.embs_len,Ty.embs_len,List.length_map,fL,fS,fA,fn,fs,fl,fg,fe,decide_true,decide_false,decide_not]
  cases bA
  rotate_left
  · try simp only [go_sem,seval,tb166,FGoal.embs_len,Tm.embs_len,Ty.embs_len,List.length_map,fL,fS,fA,fn,fs,fl,fg,fe,decide_true,decide_false,decide_not]
    rw [if_neg (by simp only [headB,isName,fL,fN,fS,fA2,fn,fs,fl2,fg,fe2];simp)]
    exact .mk (.refl _) ((Sub.refl _).skip _) ⟨rfl,sn,(set_self gk).symm⟩
  try simp only [go_sem,seval,tb166,FGoal.embs_len,Tm.embs_len,Ty.embs_len,List.length_map,fL,fS,fA,fn,fs,fl,fg,fe,decide_true,decide_false,decide_not]
  cases bg
  · try simp only [go_sem,seval,tb166,FGoal.embs_len,Tm.embs_len,Ty.embs_len,List.length_map,fL,fS,fA,fn,fs,fl,fg,fe,decide_true,decide_false,decide_not]
    rw [if_neg (by simp only [headB,isName,fL,fN,fS,fA2,fn,fs,fl2,fg,fe2];simp)]
    exact .mk (.refl _) ((Sub.refl _).skip _) ⟨rfl,sn,(set_self gk).symm⟩
  try simp only [go_sem,seval,tb166,FGoal.embs_len,Tm.embs_len,Ty.embs_len,List.length_map,fL,fS,fA,fn,fs,fl,fg,fe,decide_true,decide_false,decide_not]
  cases be
  rotate_left
  · try simp only [go_sem,seval,tb166,FGoal.embs_len,Tm.embs_len,Ty.embs_len,List.length_map,fL,fS,fA,fn,fs,fl,fg,fe,decide_true,decide_false,decide_not]
    rw [if_neg (by simp only [headB,isName,fL,fN,fS,fA2,fn,fs,fl2,fg,fe2];simp)]
    exact .mk (.refl _) ((Sub.refl _).skip _) ⟨rfl,sn,(set_self gk).symm⟩
  try simp only [go_sem,seval,tb166,FGoal.embs_len,Tm.embs_len,Ty.embs_len,List.length_map,fL,fS,fA,fn,fs,fl,fg,fe,decide_true,decide_false,decide_not]
  obtain ⟨bq,fq⟩:∃ b,decide (n=base+(sn:Int))=b:=⟨_,rfl⟩
  try simp only [go_sem,seval,tb166,FGoal.embs_len,Tm.embs_len,Ty.embs_len,FGroup.embs_len,List.length_map,fL,fS,fA,fn,fs,fl,fg,fe,decide_true,decide_false,decide_not,get_other (hfk hb5),set_other (hfk hb5),get_set_same gk',set_set,gk',fq]
  cases bq
  · try simp only [go_sem,seval,tb166,FGoal.embs_len,Tm.embs_len,Ty.embs_len,FGroup.embs_len,List.length_map,fL,fS,fA,fn,fs,fl,fg,fe,decide_true,decide_false,decide_not,get_other (hfk hb5),set_other (hfk hb5),get_set_same gk',set_set,gk',fq]
    have hst:o=none:=by clear ih;rw [← ho];clear ho;simp [stepB,quantB,implB, *]
    simp only [hst,ite_self]
    exact .mk (.refl _) ((Sub.refl _).skip _) ⟨rfl,sn,(set_self gk).symm⟩
  try simp only [go_sem,seval,tb166,FGoal.embs_len,Tm.embs_len,Ty.embs_len,FGroup.embs_len,List.length_map,fL,fS,fA,fn,fs,fl,fg,fe,decide_true,decide_false,decide_not,get_other (hfk hb5),set_other (hfk hb5),get_set_same gk',set_set,gk',fq]
  refine ⟨fun h1=>⟨by simp [apZ],?_⟩,fun h1=>?_⟩
  rotate_left
  · have h2:locals[sn]?=none:=List.getElem?_eq_none (by omega)
    try simp only [go_sem,seval,tb166,FGoal.embs_len,Tm.embs_len,Ty.embs_len,FGroup.embs_len,List.length_map,fL,fS,fA,fn,fs,fl,fg,fe,decide_true,decide_false,decide_not,get_other (hfk hb5),set_other (hfk hb5),get_set_same gk',set_set,gk',fq]
    have hst:o=none:=by clear ih;rw [← ho];clear ho;simp [stepB,quantB,implB, *]
    simp only [hst,ite_self]
    exact .mk (.refl _) ((Sub.refl _).skip _) ⟨rfl,sn,(set_self gk).symm⟩
  have h2:locals[sn]?=some locals[sn]:=List.getElem?_eq_getElem (by omega)
  generalize locals[sn]=u at h2
  refine (cformed_c [.mk ts tl] .full 2 (.inl rfl)).head ?_
  obtain ⟨bf,ff⟩:∃ b,formedT (.mk ts tl)=b:=⟨_,rfl⟩
  simp only [List.all_cons,List.all_nil,Bool.and_true,ff]
  cases bf
  · try simp only [go_sem,seval,tb166,FGoal.embs_len,Tm.embs_len,Ty.embs_len,FGroup.embs_len,List.length_map,fL,fS,fA,fn,fs,fl,fg,fe,decide_true,decide_false,decide_not,get_other (hfk hb5),set_other (hfk hb5),get_set_same gk',set_set,gk',fq]
    have hst:o=none:=by clear ih;rw [← ho];clear ho;simp [stepB,quantB,implB, *]
    simp only [hst,ite_self]
    exact .mk (.refl _) ((Sub.refl _).skip _) ⟨rfl,sn,(set_self gk).symm⟩
  try simp only [go_sem,seval,tb166,FGoal.embs_len,Tm.embs_len,Ty.embs_len,FGroup.embs_len,List.length_map,fL,fS,fA,fn,fs,fl,fg,fe,decide_true,decide_false,decide_not,get_other (hfk hb5),set_other (hfk hb5),get_set_same gk',set_set,gk',fq]
  refine ⟨by omega,by omega,fun c hc=>?_⟩
  rw [Int.toNat_natCast] at hc
  obtain ⟨u',hu,rfl⟩:=Ty.embs_get hc
  obtain rfl:u=u':=by rw [h2] at hu;injection hu
  have hsame:=sameType_c (.mk ts tl) u
  rw [ff,Bool.true_and] at hsame
  obtain ⟨bu,fu⟩:∃ b,(formedT u&&eqTy (.mk ts tl) u)=b:=⟨_,rfl⟩
  rw [fu] at hsame
  obtain ⟨us,ul⟩:=u
  simp only [Ty.emb_mk] at hsame ⊢
  try simp only [go_sem,seval,tb166,FGoal.embs_len,Tm.embs_len,Ty.embs_len,FGroup.embs_len,List.length_map,fL,fS,fA,fn,fs,fl,fg,fe,decide_true,decide_false,decide_not,get_other (hfk hb5),set_other (hfk hb5),get_set_same gk',set_set,gk',fq]
  refine hsame.use ?_
  cases bu
  · try simp only [go_sem,seval,tb166,FGoal.embs_len,Tm.embs_len,Ty.embs_len,FGroup.embs_len,List.length_map,fL,fS,fA,fn,fs,fl,fg,fe,decide_true,decide_false,decide_not,get_other (hfk hb5),set_other (hfk hb5),get_set_same gk',set_set,gk',fq]
    have hst:o=none:=by clear ih;rw [← ho];clear ho;simp [stepB,quantB,implB, *]
    simp only [hst,ite_self]
    exact .mk (.refl _) ((Sub.refl _).skip _) ⟨rfl,sn,(set_self gk).symm⟩
  try simp only [go_sem,seval,tb166,FGoal.embs_len,Tm.embs_len,Ty.embs_len,FGroup.embs_len,List.length_map,fL,fS,fA,fn,fs,fl,fg,fe,decide_true,decide_false,decide_not,get_other (hfk hb5),set_other (hfk hb5),get_set_same gk',set_set,gk',fq]
  have hw1:IntKind.i64.wrap (base+(sn:Int)+1)=base+((sn+1:Nat):Int):=by rw [wrap64 (by omega) (by omega)];omega
  have hw2:IntKind.i64.wrap ((sn:Int)+1)=((sn+1:Nat):Int):=wrap64 (by omega) (by omega)
  rw [hw1,hw2]
  have hck:AObj.cells [.list .none 2 (FGroup.embs f.groups),.list .none 1 (ints f.rules),vi grp,.list .none 2 (Ty.embs locals),vi (base+((sn+1:Nat):Int)),vi ((sn+1:Nat):Int)]=ckO f grp locals base (sn+1):=rfl
  rw [hck]
  refine (with_c _ r A n (by rw [get_other (hfr hb5),get_set_ne (Ne.symm hkr)];exact gr)).mono ?_
  rintro w S' ⟨R,B,hw,fr',hS',hB⟩
  rw [hw,hS']
  try simp only [go_sem,seval,tb166,set_other (Ne.symm fr'.1),get_other (Ne.symm fr'.1)]
  have hst:o=some (n::A,sn+1):=by clear ih;rw [← ho];clear ho;simp [stepB,quantB, *]
  have hq:sn+1≤locals.length:=by omega
  obtain ⟨q,hqe⟩:∃ q,q=sn+1:=⟨_,rfl⟩
  rw [← hqe] at hq hst ⊢
  rw [hst,if_pos (by simp only [headB,isName,fL,fN,fS,fA2,fn,fs,fl2,fg,fe2];simp)]
  simp only
  have hBc:∀ y,y∈n::A↔y∈B:=fun y=>by rw [hB];simp
  rw [termB_congr hBc,goalsS_congr f grp locals base l _ _ q hBc]
  obtain ⟨T,hT⟩:∃ T:Store,T=(R,AObj.map (embM keI (mapU B)) B.length)::(b5,.cells [.val (.map (some R))])::σ.set bk (ckO f grp locals base q):=⟨_,rfl⟩
  have n5k:=hfk hb5
  have nRk:R≠bk:=fun e=>by have:=fresh_get fr'.2;rw [e,get_set_same gk] at this;cases this
  have hTb:∀ y,T.set bk y=(R,AObj.map (embM keI (mapU B)) B.length)::(b5,.cells [.val (.map (some R))])::σ.set bk y:=fun y=>by rw [hT,set_other nRk,set_other n5k,set_set]
  have gTR:T.get R=some (AObj.map (embM keI (mapU B)) B.length):=by rw [hT,get_same]
  have gT5:T.get b5=some (.cells [.val (.map (some R))]):=by rw [hT,get_other (Ne.symm fr'.1),get_same]
  have gTk:T.get bk=some (ckO f grp locals base q):=by rw [hT,get_other nRk,get_other n5k,get_set_same gk]
  have hTs:∀ y,Sub (σ.set bk y) (T.set bk y):=fun y=>by rw [hTb];exact ((Sub.refl _).skip _).skip _
  rw [← hT]
  try simp only [go_sem,seval,tb166,gT5]
  refine (terms_c B R a .none 4 (.inl rfl) T gTR).only ?_
  cases ha:a.all (termB B)
  · try simp only [go_sem,seval,tb166]
    exact .mk (.refl _) (by have:=hTs (ckO f grp locals base q);rw [set_self gTk] at this;exact this) ⟨rfl,q,rfl⟩
  try simp only [go_sem,seval,tb166]
  refine aloopT (mu:=[5]) (dr:=[(3,6,0),(8,39,0),(14,33,0)]) [6,10,207,208,209,210,211,212,213,214,215,216] (fun x:Nat×Nat=>[(207,vi x.1)]) (fun x=>T.set bk (ckO f grp locals base x.2)) (fun x=>x.1≤l.length∧x.2≤locals.length∧goalsS f grp locals base (l.take x.1) B q=some x.2) (fun x=>l.length-x.1) (0,q) (by kernel_rfl) ⟨by omega,hq,by simp [goalsS]⟩ ⟨.refl _,trivial⟩ (by rw [set_self gTk];exact .refl _) ?_
  rintro ⟨i,s1⟩ ⟨i1,i2,i3⟩
  simp only at i1 i2 i3
  try simp only [go_sem,seval,tb166,FGoal.embs_len]
  refine ⟨fun h1=>⟨by omega,h1,fun c hc=>?_⟩,fun h1=>?_⟩
  · rw [Int.toNat_natCast] at hc
    obtain ⟨x,hx,rfl⟩:=FGoal.embs_get hc
    have ihx:=ih x (List.mem_of_getElem? hx) B s1 R
    have hsp:=split_at hx
    have hgs:goalsS f grp locals base (l.take (i+1)) B q=goalS f grp locals base x B s1:=by
      rw [List.take_add_one,hx,Option.toList_some,goalsS_app,i3]
      simp only [Option.bind_some,goalsS]
      cases goalS f grp locals base x B s1<;>rfl
    generalize goalS f grp locals base x B s1=gx at ihx hgs
    obtain ⟨k',s',a',⟨ts',tl'⟩,l',n',g',e'⟩:=x
    simp only [FGoal.emb_mk] at ihx
    try simp only [go_sem,seval,tb166,FGoal.emb_mk]
    intro b10 hb10
    have n10k:b10≠bk:=fun e=>by have:=fresh_get hb10;rw [e,get_set_same gTk] at this;cases this
    have n10R:b10≠R:=fun e=>by have:=fresh_get hb10;rw [e,get_set_ne nRk,gTR] at this;cases this
    have n105:b10≠b5:=fun e=>by have:=fresh_get hb10;rw [e,get_set_ne n5k,gT5] at this;cases this
    try simp only [go_sem,seval,tb166,get_other n105,get_set_ne n5k,gT5]
    refine (ihx _ (by rw [get_other n10k,get_set_same gTk]) (by rw [get_other n10R,get_set_ne nRk,gTR]) i2).mono ?_
    rintro w S' hw
    cases gx with
    | none =>
      obtain ⟨hw1,s2,hw2⟩:=hw
      rw [hw1,hw2,set_other n10k,set_set]
      try simp only [go_sem,seval,tb166]
      have hn:goalsS f grp locals base l B q=none:=by
        have:=List.take_append_drop (i+1) l
        rw [← this,goalsS_app,hgs];rfl
      rw [hn]
      exact .mk (.refl _) ((hTs _).skip _) ⟨rfl,s2,rfl⟩
    | some s2 =>
      obtain ⟨hw1,hw2,hw3⟩:=hw
      rw [hw1,hw2,set_other n10k,set_set]
      try simp only [go_sem,seval,tb166]
      rw [show IntKind.i64.wrap ((i:Int)+1)=((i+1:Nat):Int) from wrap64 (by omega) (by omega)]
      exact .mk (i+1,s2) ⟨by omega,hw3,hgs⟩ (by simp only;omega) ⟨.refl _,trivial⟩ (by repeat first | exact Keeps.turn _ rfl | refine Keeps.put rfl ?_) ((Sub.refl _).skip _)
  · have hil:l.take i=l:=List.take_of_length_le (by omega)
    rw [hil] at i3
    rw [i3]
    exact .mk (.refl _) (hTs _) ⟨rfl,rfl,i2⟩
theorem goalQ11_c (f:Flat)(grp:Int)(locals:List Ty)(base:Int)(bk:Nat)(hbase:0≤base∧base≤1000000000000)(hgrp:0≤grp)(hloc:locals.length≤1000000000000)(s ts:Str)(a:List Tm)(tl:List Ty)(l:List FGoal)(n g:Int)(e:List Int)(ih:∀ x∈l,GIH f grp locals base bk x):GIH f grp locals base bk (.mk 11 s a (.mk ts tl) l n g e):=by
  obtain ⟨k,hk⟩:∃ k:Int,k=11:=⟨_,rfl⟩
  rw [← hk]
  intro A sn r σ gk gr hsn
  refine ACalls.ok (by kernel_rfl) (fun hok=>?_)
  have hlen:=(((hok _ (List.mem_cons_of_mem _ List.mem_cons_self)).agg (c:=.list .none 9 (FGoal.embs l)) (by simp [FGoal.emb_mk])).len)
  rw [FGoal.embs_len] at hlen
  clear hok
  have hp:=parts_c k
  have hn:=lexName_c s
  rw [goalS]
  simp only [FGoal.emb_mk]
  obtain ⟨bL,fL⟩:∃ b,decide ((l.length:Int)=partsN k)=b:=⟨_,rfl⟩
  obtain ⟨bN,fN⟩:∃ b,isTokB 1 s=b:=⟨_,rfl⟩
  obtain ⟨bS,fS⟩:∃ b,decide (s=emptyS)=b:=⟨_,rfl⟩
  obtain ⟨bA,fA⟩:∃ b,decide (0<(a.length:Int))=b:=⟨_,rfl⟩
  obtain ⟨bn,fn⟩:∃ b,decide (n=0)=b:=⟨_,rfl⟩
  obtain ⟨bs,fs⟩:∃ b,decide (ts=emptyS)=b:=⟨_,rfl⟩
  obtain ⟨bl,fl⟩:∃ b,decide (0<(tl.length:Int))=b:=⟨_,rfl⟩
  obtain ⟨bg,fg⟩:∃ b,decide (g=0)=b:=⟨_,rfl⟩
  obtain ⟨be,fe⟩:∃ b,decide (0<(e.length:Int))=b:=⟨_,rfl⟩
  have fA2:decide (a.length=0)=!bA:=by rw [← fA,← decide_not];exact decide_eq_decide.2 (by omega)
  have fl2:decide (tl.length=0)=!bl:=by rw [← fl,← decide_not];exact decide_eq_decide.2 (by omega)
  have fe2:decide (e.length=0)=!be:=by rw [← fe,← decide_not];exact decide_eq_decide.2 (by omega)
  rw [fN] at hn
  have gk':=gk
  unfold ckO at gk'
  obtain ⟨o,ho⟩:∃ o,stepB f grp locals base k (.mk ts tl) n g e A sn=o:=⟨_,rfl⟩
  rw [ho]
  have hfk:∀ {b:Nat},Fresh σ b→b≠bk:=fun h e=>by have:=fresh_get h;rw [e,gk] at this;cases this
  have hfr:∀ {b:Nat},Fresh σ b→b≠r:=fun h e=>by have:=fresh_get h;rw [e,gr] at this;cases this
  have hkr:bk≠r:=fun e=>by rw [e,gr] at gk;cases gk
  subst hk
  refine acalls_of [5] [(3,6,0),(8,39,0),(14,33,0)] Tryz.func166 rfl (by kernel_rfl) ?_;rw [Tryz.ntmps166,Tryz.results166]
  try simp only [go_sem,seval,tb166]
  intro b5 hb5
  try simp only [go_sem,seval,tb166,FGoal.embs_len]
  refine hp.head ?_
  try simp only [go_sem,seval,tb166,FGoal.embs_len,Tm.embs_len,Ty.embs_len,List.length_map,fL,fS,fA,fn,fs,fl,fg,fe,decide_true,decide_false,decide_not]
  cases bL
  · try simp only [go_sem,seval,tb166,FGoal.embs_len,Tm.embs_len,Ty.embs_len,List.length_map,fL,fS,fA,fn,fs,fl,fg,fe,decide_true,decide_false,decide_not]
    rw [if_neg (by simp only [headB,isName,fL,fN,fS,fA2,fn,fs,fl2,fg,fe2];simp)]
    exact .mk (.refl _) ((Sub.refl _).skip _) ⟨rfl,sn,(set_self gk).symm⟩
  try simp only [go_sem,seval,tb166,FGoal.embs_len,Tm.embs_len,Ty.embs_len,List.length_map,fL,fS,fA,fn,fs,fl,fg,fe,decide_true,decide_false,decide_not]
  cases bS
  · try simp only [go_sem,seval,tb166,FGoal.embs_len,Tm.embs_len,Ty.embs_len,List.length_map,fL,fS,fA,fn,fs,fl,fg,fe,decide_true,decide_false,decide_not]
    rw [if_neg (by simp only [headB,isName,fL,fN,fS,fA2,fn,fs,fl2,fg,fe2];simp)]
    exact .mk (.refl _) ((Sub.refl _).skip _) ⟨rfl,sn,(set_self gk).symm⟩
  try simp only [go_sem,seval,tb166,FGoal.embs_len,Tm.embs_len,Ty.embs_len,List.length_map,fL,fS,fA,fn,fs,fl,fg,fe,decide_true,decide_false,decide_not]
  cases bA
  rotate_left
  · try simp only [go_sem,seval,tb166,FGoal.embs_len,Tm.embs_len,Ty.embs_len,List.length_map,fL,fS,fA,fn,fs,fl,fg,fe,decide_true,decide_false,decide_not]
    rw [if_neg (by simp only [headB,isName,fL,fN,fS,fA2,fn,fs,fl2,fg,fe2];simp)]
    exact .mk (.refl _) ((Sub.refl _).skip _) ⟨rfl,sn,(set_self gk).symm⟩
  try simp only [go_sem,seval,tb166,FGoal.embs_len,Tm.embs_len,Ty.embs_len,List.length_map,fL,fS,fA,fn,fs,fl,fg,fe,decide_true,decide_false,decide_not]
  cases bg
  · try simp only [go_sem,seval,tb166,FGoal.embs_len,Tm.embs_len,Ty.embs_len,List.length_map,fL,fS,fA,fn,fs,fl,fg,fe,decide_true,decide_false,decide_not]
    rw [if_neg (by simp only [headB,isName,fL,fN,fS,fA2,fn,fs,fl2,fg,fe2];simp)]
    exact .mk (.refl _) ((Sub.refl _).skip _) ⟨rfl,sn,(set_self gk).symm⟩
  try simp only [go_sem,seval,tb166,FGoal.embs_len,Tm.embs_len,Ty.embs_len,List.length_map,fL,fS,fA,fn,fs,fl,fg,fe,decide_true,decide_false,decide_not]
  cases be
  rotate_left
  · try simp only [go_sem,seval,tb166,FGoal.embs_len,Tm.embs_len,Ty.embs_len,List.length_map,fL,fS,fA,fn,fs,fl,fg,fe,decide_true,decide_false,decide_not]
    rw [if_neg (by simp only [headB,isName,fL,fN,fS,fA2,fn,fs,fl2,fg,fe2];simp)]
    exact .mk (.refl _) ((Sub.refl _).skip _) ⟨rfl,sn,(set_self gk).symm⟩
  try simp only [go_sem,seval,tb166,FGoal.embs_len,Tm.embs_len,Ty.embs_len,List.length_map,fL,fS,fA,fn,fs,fl,fg,fe,decide_true,decide_false,decide_not]
  obtain ⟨bq,fq⟩:∃ b,decide (n=base+(sn:Int))=b:=⟨_,rfl⟩
  try simp only [go_sem,seval,tb166,FGoal.embs_len,Tm.embs_len,Ty.embs_len,FGroup.embs_len,List.length_map,fL,fS,fA,fn,fs,fl,fg,fe,decide_true,decide_false,decide_not,get_other (hfk hb5),set_other (hfk hb5),get_set_same gk',set_set,gk',fq]
  cases bq
  · try simp only [go_sem,seval,tb166,FGoal.embs_len,Tm.embs_len,Ty.embs_len,FGroup.embs_len,List.length_map,fL,fS,fA,fn,fs,fl,fg,fe,decide_true,decide_false,decide_not,get_other (hfk hb5),set_other (hfk hb5),get_set_same gk',set_set,gk',fq]
    have hst:o=none:=by clear ih;rw [← ho];clear ho;simp [stepB,quantB,implB, *]
    simp only [hst,ite_self]
    exact .mk (.refl _) ((Sub.refl _).skip _) ⟨rfl,sn,(set_self gk).symm⟩
  try simp only [go_sem,seval,tb166,FGoal.embs_len,Tm.embs_len,Ty.embs_len,FGroup.embs_len,List.length_map,fL,fS,fA,fn,fs,fl,fg,fe,decide_true,decide_false,decide_not,get_other (hfk hb5),set_other (hfk hb5),get_set_same gk',set_set,gk',fq]
  refine ⟨fun h1=>⟨by simp [apZ],?_⟩,fun h1=>?_⟩
  rotate_left
  · have h2:locals[sn]?=none:=List.getElem?_eq_none (by omega)
    try simp only [go_sem,seval,tb166,FGoal.embs_len,Tm.embs_len,Ty.embs_len,FGroup.embs_len,List.length_map,fL,fS,fA,fn,fs,fl,fg,fe,decide_true,decide_false,decide_not,get_other (hfk hb5),set_other (hfk hb5),get_set_same gk',set_set,gk',fq]
    have hst:o=none:=by clear ih;rw [← ho];clear ho;simp [stepB,quantB,implB, *]
    simp only [hst,ite_self]
    exact .mk (.refl _) ((Sub.refl _).skip _) ⟨rfl,sn,(set_self gk).symm⟩
  have h2:locals[sn]?=some locals[sn]:=List.getElem?_eq_getElem (by omega)
  generalize locals[sn]=u at h2
  refine (cformed_c [.mk ts tl] .full 2 (.inl rfl)).head ?_
  obtain ⟨bf,ff⟩:∃ b,formedT (.mk ts tl)=b:=⟨_,rfl⟩
  simp only [List.all_cons,List.all_nil,Bool.and_true,ff]
  cases bf
  · try simp only [go_sem,seval,tb166,FGoal.embs_len,Tm.embs_len,Ty.embs_len,FGroup.embs_len,List.length_map,fL,fS,fA,fn,fs,fl,fg,fe,decide_true,decide_false,decide_not,get_other (hfk hb5),set_other (hfk hb5),get_set_same gk',set_set,gk',fq]
    have hst:o=none:=by clear ih;rw [← ho];clear ho;simp [stepB,quantB,implB, *]
    simp only [hst,ite_self]
    exact .mk (.refl _) ((Sub.refl _).skip _) ⟨rfl,sn,(set_self gk).symm⟩
  try simp only [go_sem,seval,tb166,FGoal.embs_len,Tm.embs_len,Ty.embs_len,FGroup.embs_len,List.length_map,fL,fS,fA,fn,fs,fl,fg,fe,decide_true,decide_false,decide_not,get_other (hfk hb5),set_other (hfk hb5),get_set_same gk',set_set,gk',fq]
  refine ⟨by omega,by omega,fun c hc=>?_⟩
  rw [Int.toNat_natCast] at hc
  obtain ⟨u',hu,rfl⟩:=Ty.embs_get hc
  obtain rfl:u=u':=by rw [h2] at hu;injection hu
  have hsame:=sameType_c (.mk ts tl) u
  rw [ff,Bool.true_and] at hsame
  obtain ⟨bu,fu⟩:∃ b,(formedT u&&eqTy (.mk ts tl) u)=b:=⟨_,rfl⟩
  rw [fu] at hsame
  obtain ⟨us,ul⟩:=u
  simp only [Ty.emb_mk] at hsame ⊢
  try simp only [go_sem,seval,tb166,FGoal.embs_len,Tm.embs_len,Ty.embs_len,FGroup.embs_len,List.length_map,fL,fS,fA,fn,fs,fl,fg,fe,decide_true,decide_false,decide_not,get_other (hfk hb5),set_other (hfk hb5),get_set_same gk',set_set,gk',fq]
  refine hsame.use ?_
  cases bu
  · try simp only [go_sem,seval,tb166,FGoal.embs_len,Tm.embs_len,Ty.embs_len,FGroup.embs_len,List.length_map,fL,fS,fA,fn,fs,fl,fg,fe,decide_true,decide_false,decide_not,get_other (hfk hb5),set_other (hfk hb5),get_set_same gk',set_set,gk',fq]
    have hst:o=none:=by clear ih;rw [← ho];clear ho;simp [stepB,quantB,implB, *]
    simp only [hst,ite_self]
    exact .mk (.refl _) ((Sub.refl _).skip _) ⟨rfl,sn,(set_self gk).symm⟩
  try simp only [go_sem,seval,tb166,FGoal.embs_len,Tm.embs_len,Ty.embs_len,FGroup.embs_len,List.length_map,fL,fS,fA,fn,fs,fl,fg,fe,decide_true,decide_false,decide_not,get_other (hfk hb5),set_other (hfk hb5),get_set_same gk',set_set,gk',fq]
  have hw1:IntKind.i64.wrap (base+(sn:Int)+1)=base+((sn+1:Nat):Int):=by rw [wrap64 (by omega) (by omega)];omega
  have hw2:IntKind.i64.wrap ((sn:Int)+1)=((sn+1:Nat):Int):=wrap64 (by omega) (by omega)
  rw [hw1,hw2]
  have hck:AObj.cells [.list .none 2 (FGroup.embs f.groups),.list .none 1 (ints f.rules),vi grp,.list .none 2 (Ty.embs locals),vi (base+((sn+1:Nat):Int)),vi ((sn+1:Nat):Int)]=ckO f grp locals base (sn+1):=rfl
  rw [hck]
  refine (with_c _ r A n (by rw [get_other (hfr hb5),get_set_ne (Ne.symm hkr)];exact gr)).mono ?_
  rintro w S' ⟨R,B,hw,fr',hS',hB⟩
  rw [hw,hS']
  try simp only [go_sem,seval,tb166,set_other (Ne.symm fr'.1),get_other (Ne.symm fr'.1)]
  have hst:o=some (n::A,sn+1):=by clear ih;rw [← ho];clear ho;simp [stepB,quantB, *]
  have hq:sn+1≤locals.length:=by omega
  obtain ⟨q,hqe⟩:∃ q,q=sn+1:=⟨_,rfl⟩
  rw [← hqe] at hq hst ⊢
  rw [hst,if_pos (by simp only [headB,isName,fL,fN,fS,fA2,fn,fs,fl2,fg,fe2];simp)]
  simp only
  have hBc:∀ y,y∈n::A↔y∈B:=fun y=>by rw [hB];simp
  rw [termB_congr hBc,goalsS_congr f grp locals base l _ _ q hBc]
  obtain ⟨T,hT⟩:∃ T:Store,T=(R,AObj.map (embM keI (mapU B)) B.length)::(b5,.cells [.val (.map (some R))])::σ.set bk (ckO f grp locals base q):=⟨_,rfl⟩
  have n5k:=hfk hb5
  have nRk:R≠bk:=fun e=>by have:=fresh_get fr'.2;rw [e,get_set_same gk] at this;cases this
  have hTb:∀ y,T.set bk y=(R,AObj.map (embM keI (mapU B)) B.length)::(b5,.cells [.val (.map (some R))])::σ.set bk y:=fun y=>by rw [hT,set_other nRk,set_other n5k,set_set]
  have gTR:T.get R=some (AObj.map (embM keI (mapU B)) B.length):=by rw [hT,get_same]
  have gT5:T.get b5=some (.cells [.val (.map (some R))]):=by rw [hT,get_other (Ne.symm fr'.1),get_same]
  have gTk:T.get bk=some (ckO f grp locals base q):=by rw [hT,get_other nRk,get_other n5k,get_set_same gk]
  have hTs:∀ y,Sub (σ.set bk y) (T.set bk y):=fun y=>by rw [hTb];exact ((Sub.refl _).skip _).skip _
  rw [← hT]
  try simp only [go_sem,seval,tb166,gT5]
  refine (terms_c B R a .none 4 (.inl rfl) T gTR).only ?_
  cases ha:a.all (termB B)
  · try simp only [go_sem,seval,tb166]
    exact .mk (.refl _) (by have:=hTs (ckO f grp locals base q);rw [set_self gTk] at this;exact this) ⟨rfl,q,rfl⟩
  try simp only [go_sem,seval,tb166]
  refine aloopT (mu:=[5]) (dr:=[(3,6,0),(8,39,0),(14,33,0)]) [6,10,207,208,209,210,211,212,213,214,215,216] (fun x:Nat×Nat=>[(207,vi x.1)]) (fun x=>T.set bk (ckO f grp locals base x.2)) (fun x=>x.1≤l.length∧x.2≤locals.length∧goalsS f grp locals base (l.take x.1) B q=some x.2) (fun x=>l.length-x.1) (0,q) (by kernel_rfl) ⟨by omega,hq,by simp [goalsS]⟩ ⟨.refl _,trivial⟩ (by rw [set_self gTk];exact .refl _) ?_
  rintro ⟨i,s1⟩ ⟨i1,i2,i3⟩
  simp only at i1 i2 i3
  try simp only [go_sem,seval,tb166,FGoal.embs_len]
  refine ⟨fun h1=>⟨by omega,h1,fun c hc=>?_⟩,fun h1=>?_⟩
  · rw [Int.toNat_natCast] at hc
    obtain ⟨x,hx,rfl⟩:=FGoal.embs_get hc
    have ihx:=ih x (List.mem_of_getElem? hx) B s1 R
    have hsp:=split_at hx
    have hgs:goalsS f grp locals base (l.take (i+1)) B q=goalS f grp locals base x B s1:=by
      rw [List.take_add_one,hx,Option.toList_some,goalsS_app,i3]
      simp only [Option.bind_some,goalsS]
      cases goalS f grp locals base x B s1<;>rfl
    generalize goalS f grp locals base x B s1=gx at ihx hgs
    obtain ⟨k',s',a',⟨ts',tl'⟩,l',n',g',e'⟩:=x
    simp only [FGoal.emb_mk] at ihx
    try simp only [go_sem,seval,tb166,FGoal.emb_mk]
    intro b10 hb10
    have n10k:b10≠bk:=fun e=>by have:=fresh_get hb10;rw [e,get_set_same gTk] at this;cases this
    have n10R:b10≠R:=fun e=>by have:=fresh_get hb10;rw [e,get_set_ne nRk,gTR] at this;cases this
    have n105:b10≠b5:=fun e=>by have:=fresh_get hb10;rw [e,get_set_ne n5k,gT5] at this;cases this
    try simp only [go_sem,seval,tb166,get_other n105,get_set_ne n5k,gT5]
    refine (ihx _ (by rw [get_other n10k,get_set_same gTk]) (by rw [get_other n10R,get_set_ne nRk,gTR]) i2).mono ?_
    rintro w S' hw
    cases gx with
    | none =>
      obtain ⟨hw1,s2,hw2⟩:=hw
      rw [hw1,hw2,set_other n10k,set_set]
      try simp only [go_sem,seval,tb166]
      have hn:goalsS f grp locals base l B q=none:=by
        have:=List.take_append_drop (i+1) l
        rw [← this,goalsS_app,hgs];rfl
      rw [hn]
      exact .mk (.refl _) ((hTs _).skip _) ⟨rfl,s2,rfl⟩
    | some s2 =>
      obtain ⟨hw1,hw2,hw3⟩:=hw
      rw [hw1,hw2,set_other n10k,set_set]
      try simp only [go_sem,seval,tb166]
      rw [show IntKind.i64.wrap ((i:Int)+1)=((i+1:Nat):Int) from wrap64 (by omega) (by omega)]
      exact .mk (i+1,s2) ⟨by omega,hw3,hgs⟩ (by simp only;omega) ⟨.refl _,trivial⟩ (by repeat first | exact Keeps.turn _ rfl | refine Keeps.put rfl ?_) ((Sub.refl _).skip _)
  · have hil:l.take i=l:=List.take_of_length_le (by omega)
    rw [hil] at i3
    rw [i3]
    exact .mk (.refl _) (hTs _) ⟨rfl,rfl,i2⟩
theorem goalI7_c (f:Flat)(grp:Int)(locals:List Ty)(base:Int)(bk:Nat)(hbase:0≤base∧base≤1000000000000)(hgrp:0≤grp)(hloc:locals.length≤1000000000000)(s ts:Str)(a:List Tm)(tl:List Ty)(l:List FGoal)(n g:Int)(e:List Int)(ih:∀ x∈l,GIH f grp locals base bk x):GIH f grp locals base bk (.mk 7 s a (.mk ts tl) l n g e):=by
  obtain ⟨k,hk⟩:∃ k:Int,k=7:=⟨_,rfl⟩
  rw [← hk]
  intro A sn r σ gk gr hsn
  refine ACalls.ok (by kernel_rfl) (fun hok=>?_)
  have hlen:=(((hok _ (List.mem_cons_of_mem _ List.mem_cons_self)).agg (c:=.list .none 9 (FGoal.embs l)) (by simp [FGoal.emb_mk])).len)
  rw [FGoal.embs_len] at hlen
  clear hok
  have hp:=parts_c k
  have hn:=lexName_c s
  rw [goalS]
  simp only [FGoal.emb_mk]
  obtain ⟨bL,fL⟩:∃ b,decide ((l.length:Int)=partsN k)=b:=⟨_,rfl⟩
  obtain ⟨bN,fN⟩:∃ b,isTokB 1 s=b:=⟨_,rfl⟩
  obtain ⟨bS,fS⟩:∃ b,decide (s=emptyS)=b:=⟨_,rfl⟩
  obtain ⟨bA,fA⟩:∃ b,decide (0<(a.length:Int))=b:=⟨_,rfl⟩
  obtain ⟨bn,fn⟩:∃ b,decide (n=0)=b:=⟨_,rfl⟩
  obtain ⟨bs,fs⟩:∃ b,decide (ts=emptyS)=b:=⟨_,rfl⟩
  obtain ⟨bl,fl⟩:∃ b,decide (0<(tl.length:Int))=b:=⟨_,rfl⟩
  obtain ⟨bg,fg⟩:∃ b,decide (g=0)=b:=⟨_,rfl⟩
  obtain ⟨be,fe⟩:∃ b,decide (0<(e.length:Int))=b:=⟨_,rfl⟩
  have fA2:decide (a.length=0)=!bA:=by rw [← fA,← decide_not];exact decide_eq_decide.2 (by omega)
  have fl2:decide (tl.length=0)=!bl:=by rw [← fl,← decide_not];exact decide_eq_decide.2 (by omega)
  have fe2:decide (e.length=0)=!be:=by rw [← fe,← decide_not];exact decide_eq_decide.2 (by omega)
  rw [fN] at hn
  have gk':=gk
  unfold ckO at gk'
  obtain ⟨o,ho⟩:∃ o,stepB f grp locals base k (.mk ts tl) n g e A sn=o:=⟨_,rfl⟩
  rw [ho]
  have hfk:∀ {b:Nat},Fresh σ b→b≠bk:=fun h e=>by have:=fresh_get h;rw [e,gk] at this;cases this
  have hfr:∀ {b:Nat},Fresh σ b→b≠r:=fun h e=>by have:=fresh_get h;rw [e,gr] at this;cases this
  have hkr:bk≠r:=fun e=>by rw [e,gr] at gk;cases gk
  subst hk
  refine acalls_of [5] [(3,6,0),(8,39,0),(14,33,0)] Tryz.func166 rfl (by kernel_rfl) ?_;rw [Tryz.ntmps166,Tryz.results166]
  try simp only [go_sem,seval,tb166]
  intro b5 hb5
  try simp only [go_sem,seval,tb166,FGoal.embs_len]
  refine hp.head ?_
  try simp only [go_sem,seval,tb166,FGoal.embs_len,Tm.embs_len,Ty.embs_len,List.length_map,fL,fS,fA,fn,fs,fl,fg,fe,decide_true,decide_false,decide_not]
  cases bL
  · try simp only [go_sem,seval,tb166,FGoal.embs_len,Tm.embs_len,Ty.embs_len,List.length_map,fL,fS,fA,fn,fs,fl,fg,fe,decide_true,decide_false,decide_not]
    rw [if_neg (by simp only [headB,isName,fL,fN,fS,fA2,fn,fs,fl2,fg,fe2];simp)]
    exact .mk (.refl _) ((Sub.refl _).skip _) ⟨rfl,sn,(set_self gk).symm⟩
  try simp only [go_sem,seval,tb166,FGoal.embs_len,Tm.embs_len,Ty.embs_len,List.length_map,fL,fS,fA,fn,fs,fl,fg,fe,decide_true,decide_false,decide_not]
  cases bS
  · try simp only [go_sem,seval,tb166,FGoal.embs_len,Tm.embs_len,Ty.embs_len,List.length_map,fL,fS,fA,fn,fs,fl,fg,fe,decide_true,decide_false,decide_not]
    rw [if_neg (by simp only [headB,isName,fL,fN,fS,fA2,fn,fs,fl2,fg,fe2];simp)]
    exact .mk (.refl _) ((Sub.refl _).skip _) ⟨rfl,sn,(set_self gk).symm⟩
  try simp only [go_sem,seval,tb166,FGoal.embs_len,Tm.embs_len,Ty.embs_len,List.length_map,fL,fS,fA,fn,fs,fl,fg,fe,decide_true,decide_false,decide_not]
  cases bA
  rotate_left
  · try simp only [go_sem,seval,tb166,FGoal.embs_len,Tm.embs_len,Ty.embs_len,List.length_map,fL,fS,fA,fn,fs,fl,fg,fe,decide_true,decide_false,decide_not]
    rw [if_neg (by simp only [headB,isName,fL,fN,fS,fA2,fn,fs,fl2,fg,fe2];simp)]
    exact .mk (.refl _) ((Sub.refl _).skip _) ⟨rfl,sn,(set_self gk).symm⟩
  try simp only [go_sem,seval,tb166,FGoal.embs_len,Tm.embs_len,Ty.embs_len,List.length_map,fL,fS,fA,fn,fs,fl,fg,fe,decide_true,decide_false,decide_not]
  cases bn
  · try simp only [go_sem,seval,tb166,FGoal.embs_len,Tm.embs_len,Ty.embs_len,List.length_map,fL,fS,fA,fn,fs,fl,fg,fe,decide_true,decide_false,decide_not]
    rw [if_neg (by simp only [headB,isName,fL,fN,fS,fA2,fn,fs,fl2,fg,fe2];simp)]
    exact .mk (.refl _) ((Sub.refl _).skip _) ⟨rfl,sn,(set_self gk).symm⟩
  try simp only [go_sem,seval,tb166,FGoal.embs_len,Tm.embs_len,Ty.embs_len,List.length_map,fL,fS,fA,fn,fs,fl,fg,fe,decide_true,decide_false,decide_not]
  cases bs
  · try simp only [go_sem,seval,tb166,FGoal.embs_len,Tm.embs_len,Ty.embs_len,List.length_map,fL,fS,fA,fn,fs,fl,fg,fe,decide_true,decide_false,decide_not]
    rw [if_neg (by simp only [headB,isName,fL,fN,fS,fA2,fn,fs,fl2,fg,fe2];simp)]
    exact .mk (.refl _) ((Sub.refl _).skip _) ⟨rfl,sn,(set_self gk).symm⟩
  try simp only [go_sem,seval,tb166,FGoal.embs_len,Tm.embs_len,Ty.embs_len,List.length_map,fL,fS,fA,fn,fs,fl,fg,fe,decide_true,decide_false,decide_not]
  cases bl
  rotate_left
  · try simp only [go_sem,seval,tb166,FGoal.embs_len,Tm.embs_len,Ty.embs_len,List.length_map,fL,fS,fA,fn,fs,fl,fg,fe,decide_true,decide_false,decide_not]
    rw [if_neg (by simp only [headB,isName,fL,fN,fS,fA2,fn,fs,fl2,fg,fe2];simp)]
    exact .mk (.refl _) ((Sub.refl _).skip _) ⟨rfl,sn,(set_self gk).symm⟩
  try simp only [go_sem,seval,tb166,FGoal.embs_len,Tm.embs_len,Ty.embs_len,List.length_map,fL,fS,fA,fn,fs,fl,fg,fe,decide_true,decide_false,decide_not]
  obtain ⟨bq,fq⟩:∃ b,decide (g≤grp)=b:=⟨_,rfl⟩
  try simp only [go_sem,seval,tb166,FGoal.embs_len,Tm.embs_len,Ty.embs_len,FGroup.embs_len,List.length_map,fL,fS,fA,fn,fs,fl,fg,fe,decide_true,decide_false,decide_not,get_other (hfk hb5),set_other (hfk hb5),get_set_same gk',set_set,gk',fq]
  cases bq
  rotate_left
  · try simp only [go_sem,seval,tb166,FGoal.embs_len,Tm.embs_len,Ty.embs_len,FGroup.embs_len,List.length_map,fL,fS,fA,fn,fs,fl,fg,fe,decide_true,decide_false,decide_not,get_other (hfk hb5),set_other (hfk hb5),get_set_same gk',set_set,gk',fq]
    have hi:implB f grp g e A=false:=by
      have h:¬ grp<g:=by have:=of_decide_eq_true fq;omega
      simp only [implB,decide_eq_false h,Bool.false_and]
    have hst:o=none:=by rw [← ho];simp [stepB,hi]
    simp only [hst,ite_self]
    exact .mk (.refl _) ((Sub.refl _).skip _) ⟨rfl,sn,(set_self gk).symm⟩
  have hg0:grp<g:=by simpa using fq
  try simp only [go_sem,seval,tb166,FGoal.embs_len,Tm.embs_len,Ty.embs_len,FGroup.embs_len,List.length_map,fL,fS,fA,fn,fs,fl,fg,fe,decide_true,decide_false,decide_not,get_other (hfk hb5),set_other (hfk hb5),get_set_same gk',set_set,gk',fq]
  refine ⟨fun h1=>⟨by omega,by omega,fun c hc=>?_⟩,fun h1=>?_⟩
  rotate_left
  · have h2:f.groups[g.toNat]?=none:=List.getElem?_eq_none (by omega)
    try simp only [go_sem,seval,tb166,FGoal.embs_len,Tm.embs_len,Ty.embs_len,FGroup.embs_len,List.length_map,fL,fS,fA,fn,fs,fl,fg,fe,decide_true,decide_false,decide_not,get_other (hfk hb5),set_other (hfk hb5),get_set_same gk',set_set,gk',fq]
    have hi:implB f grp g e A=false:=by simp only [implB,h2];simp
    have hst:o=none:=by rw [← ho];simp [stepB,hi]
    simp only [hst,ite_self]
    exact .mk (.refl _) ((Sub.refl _).skip _) ⟨rfl,sn,(set_self gk).symm⟩
  obtain ⟨u,h2,rfl⟩:=FGroup.embs_get hc
  obtain ⟨bu,fu⟩:∃ b,decide ((e.length:Int)=u.env.length)=b:=⟨_,rfl⟩
  have fu2:decide (e.length=u.env.length)=bu:=by rw [← fu];exact decide_eq_decide.2 (by omega)
  try simp only [go_sem,seval,tb166,FGroup.emb,Ty.embs_len,List.length_map,fu,decide_not]
  cases bu
  · try simp only [go_sem,seval,tb166,FGoal.embs_len,Tm.embs_len,Ty.embs_len,FGroup.embs_len,List.length_map,fL,fS,fA,fn,fs,fl,fg,fe,decide_true,decide_false,decide_not,get_other (hfk hb5),set_other (hfk hb5),get_set_same gk',set_set,gk',fq]
    have hi:implB f grp g e A=false:=by simp only [implB,h2,fu2];simp
    have hst:o=none:=by rw [← ho];simp [stepB,hi]
    simp only [hst,ite_self]
    exact .mk (.refl _) ((Sub.refl _).skip _) ⟨rfl,sn,(set_self gk).symm⟩
  try simp only [go_sem,seval,tb166,FGoal.embs_len,Tm.embs_len,Ty.embs_len,FGroup.embs_len,List.length_map,fL,fS,fA,fn,fs,fl,fg,fe,decide_true,decide_false,decide_not,get_other (hfk hb5),set_other (hfk hb5),get_set_same gk',set_set,gk',fq]
  have gb5:Store.get ((b5,AObj.cells [.val (.map (some r))])::σ) b5=some (.cells [.val (.map (some r))]):=get_same _ _ _
  have gbr:Store.get ((b5,AObj.cells [.val (.map (some r))])::σ) r=some (.map (embM keI (mapU A)) A.length):=by rw [get_other (hfr hb5),gr]
  refine (goal1any_c A r b5 e .none 1 (.inl rfl) _ gb5 gbr).only ?_
  obtain ⟨ba,fa⟩:∃ b,(e.any fun n=>!decide (n∈A))=b:=⟨_,rfl⟩
  rw [fa]
  cases ba
  rotate_left
  · try simp only [go_sem,seval,tb166]
    have hst:o=none:=by
      have hi:implB f grp g e A=false:=by simp only [implB,fa];simp
      rw [← ho];simp [stepB,hi]
    simp only [hst,ite_self]
    exact .mk (.refl _) ((Sub.refl _).skip _) ⟨rfl,sn,(set_self gk).symm⟩
  try simp only [go_sem,seval,tb166]
  have hst:o=some (A,sn):=by
    have hi:implB f grp g e A=true:=by simp only [implB,fa,h2,fu2];simp [hg0];omega
    rw [← ho];simp [stepB,hi]
  have hq:sn≤locals.length:=hsn
  rw [hst,if_pos (by simp only [headB,isName,fL,fN,fS,fA2,fn,fs,fl2,fg,fe2];simp [*])]
  simp only
  obtain ⟨q,hqe⟩:∃ q,q=sn:=⟨_,rfl⟩
  rw [← hqe] at hq gk ⊢
  obtain ⟨B,hBe⟩:∃ B,B=A:=⟨_,rfl⟩
  rw [← hBe] at gr ⊢
  obtain ⟨R,hRe⟩:∃ R,R=r:=⟨_,rfl⟩
  rw [← hRe] at gr hkr ⊢
  obtain ⟨T,hT⟩:∃ T:Store,T=(b5,.cells [.val (.map (some R))])::σ:=⟨_,rfl⟩
  have n5k:=hfk hb5
  have nRk:R≠bk:=Ne.symm hkr
  have hTb:∀ y,T.set bk y=(b5,.cells [.val (.map (some R))])::σ.set bk y:=fun y=>by rw [hT,set_other n5k]
  have gTR:T.get R=some (AObj.map (embM keI (mapU B)) B.length):=by rw [hT,get_other (by rw [hRe];exact hfr hb5)];exact gr
  have gT5:T.get b5=some (.cells [.val (.map (some R))]):=by rw [hT,get_same]
  have gTk:T.get bk=some (ckO f grp locals base q):=by rw [hT,get_other n5k];exact gk
  have hTs:∀ y,Sub (σ.set bk y) (T.set bk y):=fun y=>by rw [hTb];exact (Sub.refl _).skip _
  rw [← hT]
  try simp only [go_sem,seval,tb166,gT5]
  refine (terms_c B R a .none 4 (.inl rfl) T gTR).only ?_
  cases ha:a.all (termB B)
  · try simp only [go_sem,seval,tb166]
    exact .mk (.refl _) (by have:=hTs (ckO f grp locals base q);rw [set_self gTk] at this;exact this) ⟨rfl,q,rfl⟩
  try simp only [go_sem,seval,tb166]
  refine aloopT (mu:=[5]) (dr:=[(3,6,0),(8,39,0),(14,33,0)]) [6,10,207,208,209,210,211,212,213,214,215,216] (fun x:Nat×Nat=>[(207,vi x.1)]) (fun x=>T.set bk (ckO f grp locals base x.2)) (fun x=>x.1≤l.length∧x.2≤locals.length∧goalsS f grp locals base (l.take x.1) B q=some x.2) (fun x=>l.length-x.1) (0,q) (by kernel_rfl) ⟨by omega,hq,by simp [goalsS]⟩ ⟨.refl _,trivial⟩ (by rw [set_self gTk];exact .refl _) ?_
  rintro ⟨i,s1⟩ ⟨i1,i2,i3⟩
  simp only at i1 i2 i3
  try simp only [go_sem,seval,tb166,FGoal.embs_len]
  refine ⟨fun h1=>⟨by omega,h1,fun c hc=>?_⟩,fun h1=>?_⟩
  · rw [Int.toNat_natCast] at hc
    obtain ⟨x,hx,rfl⟩:=FGoal.embs_get hc
    have ihx:=ih x (List.mem_of_getElem? hx) B s1 R
    have hsp:=split_at hx
    have hgs:goalsS f grp locals base (l.take (i+1)) B q=goalS f grp locals base x B s1:=by
      rw [List.take_add_one,hx,Option.toList_some,goalsS_app,i3]
      simp only [Option.bind_some,goalsS]
      cases goalS f grp locals base x B s1<;>rfl
    generalize goalS f grp locals base x B s1=gx at ihx hgs
    obtain ⟨k',s',a',⟨ts',tl'⟩,l',n',g',e'⟩:=x
    simp only [FGoal.emb_mk] at ihx
    try simp only [go_sem,seval,tb166,FGoal.emb_mk]
    intro b10 hb10
    have n10k:b10≠bk:=fun e=>by have:=fresh_get hb10;rw [e,get_set_same gTk] at this;cases this
    have n10R:b10≠R:=fun e=>by have:=fresh_get hb10;rw [e,get_set_ne nRk,gTR] at this;cases this
    have n105:b10≠b5:=fun e=>by have:=fresh_get hb10;rw [e,get_set_ne n5k,gT5] at this;cases this
    try simp only [go_sem,seval,tb166,get_other n105,get_set_ne n5k,gT5]
    refine (ihx _ (by rw [get_other n10k,get_set_same gTk]) (by rw [get_other n10R,get_set_ne nRk,gTR]) i2).mono ?_
    rintro w S' hw
    cases gx with
    | none =>
      obtain ⟨hw1,s2,hw2⟩:=hw
      rw [hw1,hw2,set_other n10k,set_set]
      try simp only [go_sem,seval,tb166]
      have hn:goalsS f grp locals base l B q=none:=by
        have:=List.take_append_drop (i+1) l
        rw [← this,goalsS_app,hgs];rfl
      rw [hn]
      exact .mk (.refl _) ((hTs _).skip _) ⟨rfl,s2,rfl⟩
    | some s2 =>
      obtain ⟨hw1,hw2,hw3⟩:=hw
      rw [hw1,hw2,set_other n10k,set_set]
      try simp only [go_sem,seval,tb166]
      rw [show IntKind.i64.wrap ((i:Int)+1)=((i+1:Nat):Int) from wrap64 (by omega) (by omega)]
      exact .mk (i+1,s2) ⟨by omega,hw3,hgs⟩ (by simp only;omega) ⟨.refl _,trivial⟩ (by repeat first | exact Keeps.turn _ rfl | refine Keeps.put rfl ?_) ((Sub.refl _).skip _)
  · have hil:l.take i=l:=List.take_of_length_le (by omega)
    rw [hil] at i3
    rw [i3]
    exact .mk (.refl _) (hTs _) ⟨rfl,rfl,i2⟩
theorem goalI8_c (f:Flat)(grp:Int)(locals:List Ty)(base:Int)(bk:Nat)(hbase:0≤base∧base≤1000000000000)(hgrp:0≤grp)(hloc:locals.length≤1000000000000)(s ts:Str)(a:List Tm)(tl:List Ty)(l:List FGoal)(n g:Int)(e:List Int)(ih:∀ x∈l,GIH f grp locals base bk x):GIH f grp locals base bk (.mk 8 s a (.mk ts tl) l n g e):=by
  obtain ⟨k,hk⟩:∃ k:Int,k=8:=⟨_,rfl⟩
  rw [← hk]
  intro A sn r σ gk gr hsn
  refine ACalls.ok (by kernel_rfl) (fun hok=>?_)
  have hlen:=(((hok _ (List.mem_cons_of_mem _ List.mem_cons_self)).agg (c:=.list .none 9 (FGoal.embs l)) (by simp [FGoal.emb_mk])).len)
  rw [FGoal.embs_len] at hlen
  clear hok
  have hp:=parts_c k
  have hn:=lexName_c s
  rw [goalS]
  simp only [FGoal.emb_mk]
  obtain ⟨bL,fL⟩:∃ b,decide ((l.length:Int)=partsN k)=b:=⟨_,rfl⟩
  obtain ⟨bN,fN⟩:∃ b,isTokB 1 s=b:=⟨_,rfl⟩
  obtain ⟨bS,fS⟩:∃ b,decide (s=emptyS)=b:=⟨_,rfl⟩
  obtain ⟨bA,fA⟩:∃ b,decide (0<(a.length:Int))=b:=⟨_,rfl⟩
  obtain ⟨bn,fn⟩:∃ b,decide (n=0)=b:=⟨_,rfl⟩
  obtain ⟨bs,fs⟩:∃ b,decide (ts=emptyS)=b:=⟨_,rfl⟩
  obtain ⟨bl,fl⟩:∃ b,decide (0<(tl.length:Int))=b:=⟨_,rfl⟩
  obtain ⟨bg,fg⟩:∃ b,decide (g=0)=b:=⟨_,rfl⟩
  obtain ⟨be,fe⟩:∃ b,decide (0<(e.length:Int))=b:=⟨_,rfl⟩
  have fA2:decide (a.length=0)=!bA:=by rw [← fA,← decide_not];exact decide_eq_decide.2 (by omega)
  have fl2:decide (tl.length=0)=!bl:=by rw [← fl,← decide_not];exact decide_eq_decide.2 (by omega)
  have fe2:decide (e.length=0)=!be:=by rw [← fe,← decide_not];exact decide_eq_decide.2 (by omega)
  rw [fN] at hn
  have gk':=gk
  unfold ckO at gk'
  obtain ⟨o,ho⟩:∃ o,stepB f grp locals base k (.mk ts tl) n g e A sn=o:=⟨_,rfl⟩
  rw [ho]
  have hfk:∀ {b:Nat},Fresh σ b→b≠bk:=fun h e=>by have:=fresh_get h;rw [e,gk] at this;cases this
  have hfr:∀ {b:Nat},Fresh σ b→b≠r:=fun h e=>by have:=fresh_get h;rw [e,gr] at this;cases this
  have hkr:bk≠r:=fun e=>by rw [e,gr] at gk;cases gk
  subst hk
  refine acalls_of [5] [(3,6,0),(8,39,0),(14,33,0)] Tryz.func166 rfl (by kernel_rfl) ?_;rw [Tryz.ntmps166,Tryz.results166]
  try simp only [go_sem,seval,tb166]
  intro b5 hb5
  try simp only [go_sem,seval,tb166,FGoal.embs_len]
  refine hp.head ?_
  try simp only [go_sem,seval,tb166,FGoal.embs_len,Tm.embs_len,Ty.embs_len,List.length_map,fL,fS,fA,fn,fs,fl,fg,fe,decide_true,decide_false,decide_not]
  cases bL
  · try simp only [go_sem,seval,tb166,FGoal.embs_len,Tm.embs_len,Ty.embs_len,List.length_map,fL,fS,fA,fn,fs,fl,fg,fe,decide_true,decide_false,decide_not]
    rw [if_neg (by simp only [headB,isName,fL,fN,fS,fA2,fn,fs,fl2,fg,fe2];simp)]
    exact .mk (.refl _) ((Sub.refl _).skip _) ⟨rfl,sn,(set_self gk).symm⟩
  try simp only [go_sem,seval,tb166,FGoal.embs_len,Tm.embs_len,Ty.embs_len,List.length_map,fL,fS,fA,fn,fs,fl,fg,fe,decide_true,decide_false,decide_not]
  cases bS
  · try simp only [go_sem,seval,tb166,FGoal.embs_len,Tm.embs_len,Ty.embs_len,List.length_map,fL,fS,fA,fn,fs,fl,fg,fe,decide_true,decide_false,decide_not]
    rw [if_neg (by simp only [headB,isName,fL,fN,fS,fA2,fn,fs,fl2,fg,fe2];simp)]
    exact .mk (.refl _) ((Sub.refl _).skip _) ⟨rfl,sn,(set_self gk).symm⟩
  try simp only [go_sem,seval,tb166,FGoal.embs_len,Tm.embs_len,Ty.embs_len,List.length_map,fL,fS,fA,fn,fs,fl,fg,fe,decide_true,decide_false,decide_not]
  cases bA
  rotate_left
  · try simp only [go_sem,seval,tb166,FGoal.embs_len,Tm.embs_len,Ty.embs_len,List.length_map,fL,fS,fA,fn,fs,fl,fg,fe,decide_true,decide_false,decide_not]
    rw [if_neg (by simp only [headB,isName,fL,fN,fS,fA2,fn,fs,fl2,fg,fe2];simp)]
    exact .mk (.refl _) ((Sub.refl _).skip _) ⟨rfl,sn,(set_self gk).symm⟩
  try simp only [go_sem,seval,tb166,FGoal.embs_len,Tm.embs_len,Ty.embs_len,List.length_map,fL,fS,fA,fn,fs,fl,fg,fe,decide_true,decide_false,decide_not]
  cases bn
  · try simp only [go_sem,seval,tb166,FGoal.embs_len,Tm.embs_len,Ty.embs_len,List.length_map,fL,fS,fA,fn,fs,fl,fg,fe,decide_true,decide_false,decide_not]
    rw [if_neg (by simp only [headB,isName,fL,fN,fS,fA2,fn,fs,fl2,fg,fe2];simp)]
    exact .mk (.refl _) ((Sub.refl _).skip _) ⟨rfl,sn,(set_self gk).symm⟩
  try simp only [go_sem,seval,tb166,FGoal.embs_len,Tm.embs_len,Ty.embs_len,List.length_map,fL,fS,fA,fn,fs,fl,fg,fe,decide_true,decide_false,decide_not]
  cases bs
  · try simp only [go_sem,seval,tb166,FGoal.embs_len,Tm.embs_len,Ty.embs_len,List.length_map,fL,fS,fA,fn,fs,fl,fg,fe,decide_true,decide_false,decide_not]
    rw [if_neg (by simp only [headB,isName,fL,fN,fS,fA2,fn,fs,fl2,fg,fe2];simp)]
    exact .mk (.refl _) ((Sub.refl _).skip _) ⟨rfl,sn,(set_self gk).symm⟩
  try simp only [go_sem,seval,tb166,FGoal.embs_len,Tm.embs_len,Ty.embs_len,List.length_map,fL,fS,fA,fn,fs,fl,fg,fe,decide_true,decide_false,decide_not]
  cases bl
  rotate_left
  · try simp only [go_sem,seval,tb166,FGoal.embs_len,Tm.embs_len,Ty.embs_len,List.length_map,fL,fS,fA,fn,fs,fl,fg,fe,decide_true,decide_false,decide_not]
    rw [if_neg (by simp only [headB,isName,fL,fN,fS,fA2,fn,fs,fl2,fg,fe2];simp)]
    exact .mk (.refl _) ((Sub.refl _).skip _) ⟨rfl,sn,(set_self gk).symm⟩
  try simp only [go_sem,seval,tb166,FGoal.embs_len,Tm.embs_len,Ty.embs_len,List.length_map,fL,fS,fA,fn,fs,fl,fg,fe,decide_true,decide_false,decide_not]
  obtain ⟨bq,fq⟩:∃ b,decide (g≤grp)=b:=⟨_,rfl⟩
  try simp only [go_sem,seval,tb166,FGoal.embs_len,Tm.embs_len,Ty.embs_len,FGroup.embs_len,List.length_map,fL,fS,fA,fn,fs,fl,fg,fe,decide_true,decide_false,decide_not,get_other (hfk hb5),set_other (hfk hb5),get_set_same gk',set_set,gk',fq]
  cases bq
  rotate_left
  · try simp only [go_sem,seval,tb166,FGoal.embs_len,Tm.embs_len,Ty.embs_len,FGroup.embs_len,List.length_map,fL,fS,fA,fn,fs,fl,fg,fe,decide_true,decide_false,decide_not,get_other (hfk hb5),set_other (hfk hb5),get_set_same gk',set_set,gk',fq]
    have hi:implB f grp g e A=false:=by
      have h:¬ grp<g:=by have:=of_decide_eq_true fq;omega
      simp only [implB,decide_eq_false h,Bool.false_and]
    have hst:o=none:=by rw [← ho];simp [stepB,hi]
    simp only [hst,ite_self]
    exact .mk (.refl _) ((Sub.refl _).skip _) ⟨rfl,sn,(set_self gk).symm⟩
  have hg0:grp<g:=by simpa using fq
  try simp only [go_sem,seval,tb166,FGoal.embs_len,Tm.embs_len,Ty.embs_len,FGroup.embs_len,List.length_map,fL,fS,fA,fn,fs,fl,fg,fe,decide_true,decide_false,decide_not,get_other (hfk hb5),set_other (hfk hb5),get_set_same gk',set_set,gk',fq]
  refine ⟨fun h1=>⟨by omega,by omega,fun c hc=>?_⟩,fun h1=>?_⟩
  rotate_left
  · have h2:f.groups[g.toNat]?=none:=List.getElem?_eq_none (by omega)
    try simp only [go_sem,seval,tb166,FGoal.embs_len,Tm.embs_len,Ty.embs_len,FGroup.embs_len,List.length_map,fL,fS,fA,fn,fs,fl,fg,fe,decide_true,decide_false,decide_not,get_other (hfk hb5),set_other (hfk hb5),get_set_same gk',set_set,gk',fq]
    have hi:implB f grp g e A=false:=by simp only [implB,h2];simp
    have hst:o=none:=by rw [← ho];simp [stepB,hi]
    simp only [hst,ite_self]
    exact .mk (.refl _) ((Sub.refl _).skip _) ⟨rfl,sn,(set_self gk).symm⟩
  obtain ⟨u,h2,rfl⟩:=FGroup.embs_get hc
  obtain ⟨bu,fu⟩:∃ b,decide ((e.length:Int)=u.env.length)=b:=⟨_,rfl⟩
  have fu2:decide (e.length=u.env.length)=bu:=by rw [← fu];exact decide_eq_decide.2 (by omega)
  try simp only [go_sem,seval,tb166,FGroup.emb,Ty.embs_len,List.length_map,fu,decide_not]
  cases bu
  · try simp only [go_sem,seval,tb166,FGoal.embs_len,Tm.embs_len,Ty.embs_len,FGroup.embs_len,List.length_map,fL,fS,fA,fn,fs,fl,fg,fe,decide_true,decide_false,decide_not,get_other (hfk hb5),set_other (hfk hb5),get_set_same gk',set_set,gk',fq]
    have hi:implB f grp g e A=false:=by simp only [implB,h2,fu2];simp
    have hst:o=none:=by rw [← ho];simp [stepB,hi]
    simp only [hst,ite_self]
    exact .mk (.refl _) ((Sub.refl _).skip _) ⟨rfl,sn,(set_self gk).symm⟩
  try simp only [go_sem,seval,tb166,FGoal.embs_len,Tm.embs_len,Ty.embs_len,FGroup.embs_len,List.length_map,fL,fS,fA,fn,fs,fl,fg,fe,decide_true,decide_false,decide_not,get_other (hfk hb5),set_other (hfk hb5),get_set_same gk',set_set,gk',fq]
  have gb5:Store.get ((b5,AObj.cells [.val (.map (some r))])::σ) b5=some (.cells [.val (.map (some r))]):=get_same _ _ _
  have gbr:Store.get ((b5,AObj.cells [.val (.map (some r))])::σ) r=some (.map (embM keI (mapU A)) A.length):=by rw [get_other (hfr hb5),gr]
  refine (goal1any_c A r b5 e .none 1 (.inl rfl) _ gb5 gbr).only ?_
  obtain ⟨ba,fa⟩:∃ b,(e.any fun n=>!decide (n∈A))=b:=⟨_,rfl⟩
  rw [fa]
  cases ba
  rotate_left
  · try simp only [go_sem,seval,tb166]
    have hst:o=none:=by
      have hi:implB f grp g e A=false:=by simp only [implB,fa];simp
      rw [← ho];simp [stepB,hi]
    simp only [hst,ite_self]
    exact .mk (.refl _) ((Sub.refl _).skip _) ⟨rfl,sn,(set_self gk).symm⟩
  try simp only [go_sem,seval,tb166]
  have hst:o=some (A,sn):=by
    have hi:implB f grp g e A=true:=by simp only [implB,fa,h2,fu2];simp [hg0];omega
    rw [← ho];simp [stepB,hi]
  have hq:sn≤locals.length:=hsn
  rw [hst,if_pos (by simp only [headB,isName,fL,fN,fS,fA2,fn,fs,fl2,fg,fe2];simp [*])]
  simp only
  obtain ⟨q,hqe⟩:∃ q,q=sn:=⟨_,rfl⟩
  rw [← hqe] at hq gk ⊢
  obtain ⟨B,hBe⟩:∃ B,B=A:=⟨_,rfl⟩
  rw [← hBe] at gr ⊢
  obtain ⟨R,hRe⟩:∃ R,R=r:=⟨_,rfl⟩
  rw [← hRe] at gr hkr ⊢
  obtain ⟨T,hT⟩:∃ T:Store,T=(b5,.cells [.val (.map (some R))])::σ:=⟨_,rfl⟩
  have n5k:=hfk hb5
  have nRk:R≠bk:=Ne.symm hkr
  have hTb:∀ y,T.set bk y=(b5,.cells [.val (.map (some R))])::σ.set bk y:=fun y=>by rw [hT,set_other n5k]
  have gTR:T.get R=some (AObj.map (embM keI (mapU B)) B.length):=by rw [hT,get_other (by rw [hRe];exact hfr hb5)];exact gr
  have gT5:T.get b5=some (.cells [.val (.map (some R))]):=by rw [hT,get_same]
  have gTk:T.get bk=some (ckO f grp locals base q):=by rw [hT,get_other n5k];exact gk
  have hTs:∀ y,Sub (σ.set bk y) (T.set bk y):=fun y=>by rw [hTb];exact (Sub.refl _).skip _
  rw [← hT]
  try simp only [go_sem,seval,tb166,gT5]
  refine (terms_c B R a .none 4 (.inl rfl) T gTR).only ?_
  cases ha:a.all (termB B)
  · try simp only [go_sem,seval,tb166]
    exact .mk (.refl _) (by have:=hTs (ckO f grp locals base q);rw [set_self gTk] at this;exact this) ⟨rfl,q,rfl⟩
  try simp only [go_sem,seval,tb166]
  refine aloopT (mu:=[5]) (dr:=[(3,6,0),(8,39,0),(14,33,0)]) [6,10,207,208,209,210,211,212,213,214,215,216] (fun x:Nat×Nat=>[(207,vi x.1)]) (fun x=>T.set bk (ckO f grp locals base x.2)) (fun x=>x.1≤l.length∧x.2≤locals.length∧goalsS f grp locals base (l.take x.1) B q=some x.2) (fun x=>l.length-x.1) (0,q) (by kernel_rfl) ⟨by omega,hq,by simp [goalsS]⟩ ⟨.refl _,trivial⟩ (by rw [set_self gTk];exact .refl _) ?_
  rintro ⟨i,s1⟩ ⟨i1,i2,i3⟩
  simp only at i1 i2 i3
  try simp only [go_sem,seval,tb166,FGoal.embs_len]
  refine ⟨fun h1=>⟨by omega,h1,fun c hc=>?_⟩,fun h1=>?_⟩
  · rw [Int.toNat_natCast] at hc
    obtain ⟨x,hx,rfl⟩:=FGoal.embs_get hc
    have ihx:=ih x (List.mem_of_getElem? hx) B s1 R
    have hsp:=split_at hx
    have hgs:goalsS f grp locals base (l.take (i+1)) B q=goalS f grp locals base x B s1:=by
      rw [List.take_add_one,hx,Option.toList_some,goalsS_app,i3]
      simp only [Option.bind_some,goalsS]
      cases goalS f grp locals base x B s1<;>rfl
    generalize goalS f grp locals base x B s1=gx at ihx hgs
    obtain ⟨k',s',a',⟨ts',tl'⟩,l',n',g',e'⟩:=x
    simp only [FGoal.emb_mk] at ihx
    try simp only [go_sem,seval,tb166,FGoal.emb_mk]
    intro b10 hb10
    have n10k:b10≠bk:=fun e=>by have:=fresh_get hb10;rw [e,get_set_same gTk] at this;cases this
    have n10R:b10≠R:=fun e=>by have:=fresh_get hb10;rw [e,get_set_ne nRk,gTR] at this;cases this
    have n105:b10≠b5:=fun e=>by have:=fresh_get hb10;rw [e,get_set_ne n5k,gT5] at this;cases this
    try simp only [go_sem,seval,tb166,get_other n105,get_set_ne n5k,gT5]
    refine (ihx _ (by rw [get_other n10k,get_set_same gTk]) (by rw [get_other n10R,get_set_ne nRk,gTR]) i2).mono ?_
    rintro w S' hw
    cases gx with
    | none =>
      obtain ⟨hw1,s2,hw2⟩:=hw
      rw [hw1,hw2,set_other n10k,set_set]
      try simp only [go_sem,seval,tb166]
      have hn:goalsS f grp locals base l B q=none:=by
        have:=List.take_append_drop (i+1) l
        rw [← this,goalsS_app,hgs];rfl
      rw [hn]
      exact .mk (.refl _) ((hTs _).skip _) ⟨rfl,s2,rfl⟩
    | some s2 =>
      obtain ⟨hw1,hw2,hw3⟩:=hw
      rw [hw1,hw2,set_other n10k,set_set]
      try simp only [go_sem,seval,tb166]
      rw [show IntKind.i64.wrap ((i:Int)+1)=((i+1:Nat):Int) from wrap64 (by omega) (by omega)]
      exact .mk (i+1,s2) ⟨by omega,hw3,hgs⟩ (by simp only;omega) ⟨.refl _,trivial⟩ (by repeat first | exact Keeps.turn _ rfl | refine Keeps.put rfl ?_) ((Sub.refl _).skip _)
  · have hil:l.take i=l:=List.take_of_length_le (by omega)
    rw [hil] at i3
    rw [i3]
    exact .mk (.refl _) (hTs _) ⟨rfl,rfl,i2⟩
theorem goalO_c (f:Flat)(grp:Int)(locals:List Ty)(base:Int)(bk:Nat)(hbase:0≤base∧base≤1000000000000)(hgrp:0≤grp)(hloc:locals.length≤1000000000000)(s ts:Str)(a:List Tm)(tl:List Ty)(l:List FGoal)(n g:Int)(e:List Int)(ih:∀ x∈l,GIH f grp locals base bk x)(k:Int)(h1:k≠1)(h10:k≠10)(h11:k≠11)(h7:k≠7)(h8:k≠8):GIH f grp locals base bk (.mk k s a (.mk ts tl) l n g e):=by
  have k1:(k=1)=False:=eq_false h1
  have k10:(k=10)=False:=eq_false h10
  have k11:(k=11)=False:=eq_false h11
  have k7:(k=7)=False:=eq_false h7
  have k8:(k=8)=False:=eq_false h8
  intro A sn r σ gk gr hsn
  refine ACalls.ok (by kernel_rfl) (fun hok=>?_)
  have hlen:=(((hok _ (List.mem_cons_of_mem _ List.mem_cons_self)).agg (c:=.list .none 9 (FGoal.embs l)) (by simp [FGoal.emb_mk])).len)
  rw [FGoal.embs_len] at hlen
  clear hok
  have hp:=parts_c k
  have hn:=lexName_c s
  rw [goalS]
  simp only [FGoal.emb_mk]
  obtain ⟨bL,fL⟩:∃ b,decide ((l.length:Int)=partsN k)=b:=⟨_,rfl⟩
  obtain ⟨bN,fN⟩:∃ b,isTokB 1 s=b:=⟨_,rfl⟩
  obtain ⟨bS,fS⟩:∃ b,decide (s=emptyS)=b:=⟨_,rfl⟩
  obtain ⟨bA,fA⟩:∃ b,decide (0<(a.length:Int))=b:=⟨_,rfl⟩
  obtain ⟨bn,fn⟩:∃ b,decide (n=0)=b:=⟨_,rfl⟩
  obtain ⟨bs,fs⟩:∃ b,decide (ts=emptyS)=b:=⟨_,rfl⟩
  obtain ⟨bl,fl⟩:∃ b,decide (0<(tl.length:Int))=b:=⟨_,rfl⟩
  obtain ⟨bg,fg⟩:∃ b,decide (g=0)=b:=⟨_,rfl⟩
  obtain ⟨be,fe⟩:∃ b,decide (0<(e.length:Int))=b:=⟨_,rfl⟩
  have fA2:decide (a.length=0)=!bA:=by rw [← fA,← decide_not];exact decide_eq_decide.2 (by omega)
  have fl2:decide (tl.length=0)=!bl:=by rw [← fl,← decide_not];exact decide_eq_decide.2 (by omega)
  have fe2:decide (e.length=0)=!be:=by rw [← fe,← decide_not];exact decide_eq_decide.2 (by omega)
  rw [fN] at hn
  have gk':=gk
  unfold ckO at gk'
  obtain ⟨o,ho⟩:∃ o,stepB f grp locals base k (.mk ts tl) n g e A sn=o:=⟨_,rfl⟩
  rw [ho]
  have hfk:∀ {b:Nat},Fresh σ b→b≠bk:=fun h e=>by have:=fresh_get h;rw [e,gk] at this;cases this
  have hfr:∀ {b:Nat},Fresh σ b→b≠r:=fun h e=>by have:=fresh_get h;rw [e,gr] at this;cases this
  have hkr:bk≠r:=fun e=>by rw [e,gr] at gk;cases gk
  refine acalls_of [5] [(3,6,0),(8,39,0),(14,33,0)] Tryz.func166 rfl (by kernel_rfl) ?_;rw [Tryz.ntmps166,Tryz.results166]
  try simp only [go_sem,seval,tb166,k1,k7,k8,k10,k11,decide_false]
  intro b5 hb5
  try simp only [go_sem,seval,tb166,FGoal.embs_len,k1,k7,k8,k10,k11,decide_false]
  refine hp.head ?_
  try simp only [go_sem,seval,tb166,FGoal.embs_len,Tm.embs_len,Ty.embs_len,List.length_map,k1,k7,k8,k10,k11,fL,fS,fA,fn,fs,fl,fg,fe,decide_true,decide_false,decide_not]
  cases bL
  · try simp only [go_sem,seval,tb166,FGoal.embs_len,Tm.embs_len,Ty.embs_len,List.length_map,k1,k7,k8,k10,k11,fL,fS,fA,fn,fs,fl,fg,fe,decide_true,decide_false,decide_not]
    rw [if_neg (by simp only [headB,isName,k1,k7,k8,k10,k11,fL,fN,fS,fA2,fn,fs,fl2,fg,fe2];simp)]
    exact .mk (.refl _) ((Sub.refl _).skip _) ⟨rfl,sn,(set_self gk).symm⟩
  try simp only [go_sem,seval,tb166,FGoal.embs_len,Tm.embs_len,Ty.embs_len,List.length_map,k1,k7,k8,k10,k11,fL,fS,fA,fn,fs,fl,fg,fe,decide_true,decide_false,decide_not]
  cases bS
  · try simp only [go_sem,seval,tb166,FGoal.embs_len,Tm.embs_len,Ty.embs_len,List.length_map,k1,k7,k8,k10,k11,fL,fS,fA,fn,fs,fl,fg,fe,decide_true,decide_false,decide_not]
    rw [if_neg (by simp only [headB,isName,k1,k7,k8,k10,k11,fL,fN,fS,fA2,fn,fs,fl2,fg,fe2];simp)]
    exact .mk (.refl _) ((Sub.refl _).skip _) ⟨rfl,sn,(set_self gk).symm⟩
  try simp only [go_sem,seval,tb166,FGoal.embs_len,Tm.embs_len,Ty.embs_len,List.length_map,k1,k7,k8,k10,k11,fL,fS,fA,fn,fs,fl,fg,fe,decide_true,decide_false,decide_not]
  cases bA
  rotate_left
  · try simp only [go_sem,seval,tb166,FGoal.embs_len,Tm.embs_len,Ty.embs_len,List.length_map,k1,k7,k8,k10,k11,fL,fS,fA,fn,fs,fl,fg,fe,decide_true,decide_false,decide_not]
    rw [if_neg (by simp only [headB,isName,k1,k7,k8,k10,k11,fL,fN,fS,fA2,fn,fs,fl2,fg,fe2];simp)]
    exact .mk (.refl _) ((Sub.refl _).skip _) ⟨rfl,sn,(set_self gk).symm⟩
  try simp only [go_sem,seval,tb166,FGoal.embs_len,Tm.embs_len,Ty.embs_len,List.length_map,k1,k7,k8,k10,k11,fL,fS,fA,fn,fs,fl,fg,fe,decide_true,decide_false,decide_not]
  cases bn
  · try simp only [go_sem,seval,tb166,FGoal.embs_len,Tm.embs_len,Ty.embs_len,List.length_map,k1,k7,k8,k10,k11,fL,fS,fA,fn,fs,fl,fg,fe,decide_true,decide_false,decide_not]
    rw [if_neg (by simp only [headB,isName,k1,k7,k8,k10,k11,fL,fN,fS,fA2,fn,fs,fl2,fg,fe2];simp)]
    exact .mk (.refl _) ((Sub.refl _).skip _) ⟨rfl,sn,(set_self gk).symm⟩
  try simp only [go_sem,seval,tb166,FGoal.embs_len,Tm.embs_len,Ty.embs_len,List.length_map,k1,k7,k8,k10,k11,fL,fS,fA,fn,fs,fl,fg,fe,decide_true,decide_false,decide_not]
  cases bs
  · try simp only [go_sem,seval,tb166,FGoal.embs_len,Tm.embs_len,Ty.embs_len,List.length_map,k1,k7,k8,k10,k11,fL,fS,fA,fn,fs,fl,fg,fe,decide_true,decide_false,decide_not]
    rw [if_neg (by simp only [headB,isName,k1,k7,k8,k10,k11,fL,fN,fS,fA2,fn,fs,fl2,fg,fe2];simp)]
    exact .mk (.refl _) ((Sub.refl _).skip _) ⟨rfl,sn,(set_self gk).symm⟩
  try simp only [go_sem,seval,tb166,FGoal.embs_len,Tm.embs_len,Ty.embs_len,List.length_map,k1,k7,k8,k10,k11,fL,fS,fA,fn,fs,fl,fg,fe,decide_true,decide_false,decide_not]
  cases bl
  rotate_left
  · try simp only [go_sem,seval,tb166,FGoal.embs_len,Tm.embs_len,Ty.embs_len,List.length_map,k1,k7,k8,k10,k11,fL,fS,fA,fn,fs,fl,fg,fe,decide_true,decide_false,decide_not]
    rw [if_neg (by simp only [headB,isName,k1,k7,k8,k10,k11,fL,fN,fS,fA2,fn,fs,fl2,fg,fe2];simp)]
    exact .mk (.refl _) ((Sub.refl _).skip _) ⟨rfl,sn,(set_self gk).symm⟩
  try simp only [go_sem,seval,tb166,FGoal.embs_len,Tm.embs_len,Ty.embs_len,List.length_map,k1,k7,k8,k10,k11,fL,fS,fA,fn,fs,fl,fg,fe,decide_true,decide_false,decide_not]
  cases bg
  · try simp only [go_sem,seval,tb166,FGoal.embs_len,Tm.embs_len,Ty.embs_len,List.length_map,k1,k7,k8,k10,k11,fL,fS,fA,fn,fs,fl,fg,fe,decide_true,decide_false,decide_not]
    rw [if_neg (by simp only [headB,isName,k1,k7,k8,k10,k11,fL,fN,fS,fA2,fn,fs,fl2,fg,fe2];simp)]
    exact .mk (.refl _) ((Sub.refl _).skip _) ⟨rfl,sn,(set_self gk).symm⟩
  try simp only [go_sem,seval,tb166,FGoal.embs_len,Tm.embs_len,Ty.embs_len,List.length_map,k1,k7,k8,k10,k11,fL,fS,fA,fn,fs,fl,fg,fe,decide_true,decide_false,decide_not]
  cases be
  rotate_left
  · try simp only [go_sem,seval,tb166,FGoal.embs_len,Tm.embs_len,Ty.embs_len,List.length_map,k1,k7,k8,k10,k11,fL,fS,fA,fn,fs,fl,fg,fe,decide_true,decide_false,decide_not]
    rw [if_neg (by simp only [headB,isName,k1,k7,k8,k10,k11,fL,fN,fS,fA2,fn,fs,fl2,fg,fe2];simp)]
    exact .mk (.refl _) ((Sub.refl _).skip _) ⟨rfl,sn,(set_self gk).symm⟩
  try simp only [go_sem,seval,tb166,FGoal.embs_len,Tm.embs_len,Ty.embs_len,List.length_map,k1,k7,k8,k10,k11,fL,fS,fA,fn,fs,fl,fg,fe,decide_true,decide_false,decide_not]
  try simp only [go_sem,seval,tb166,FGoal.embs_len,Tm.embs_len,Ty.embs_len,List.length_map,k1,k7,k8,k10,k11,fL,fS,fA,fn,fs,fl,fg,fe,decide_true,decide_false,decide_not]
  have hst:o=some (A,sn):=by rw [← ho];simp [stepB, *]
  have hq:sn≤locals.length:=hsn
  rw [hst,if_pos (by simp only [headB,isName,fL,fN,fS,fA2,fn,fs,fl2,fg,fe2];simp [*])]
  simp only
  obtain ⟨q,hqe⟩:∃ q,q=sn:=⟨_,rfl⟩
  rw [← hqe] at hq gk ⊢
  obtain ⟨B,hBe⟩:∃ B,B=A:=⟨_,rfl⟩
  rw [← hBe] at gr ⊢
  obtain ⟨R,hRe⟩:∃ R,R=r:=⟨_,rfl⟩
  rw [← hRe] at gr hkr ⊢
  obtain ⟨T,hT⟩:∃ T:Store,T=(b5,.cells [.val (.map (some R))])::σ:=⟨_,rfl⟩
  have n5k:=hfk hb5
  have nRk:R≠bk:=Ne.symm hkr
  have hTb:∀ y,T.set bk y=(b5,.cells [.val (.map (some R))])::σ.set bk y:=fun y=>by rw [hT,set_other n5k]
  have gTR:T.get R=some (AObj.map (embM keI (mapU B)) B.length):=by rw [hT,get_other (by rw [hRe];exact hfr hb5)];exact gr
  have gT5:T.get b5=some (.cells [.val (.map (some R))]):=by rw [hT,get_same]
  have gTk:T.get bk=some (ckO f grp locals base q):=by rw [hT,get_other n5k];exact gk
  have hTs:∀ y,Sub (σ.set bk y) (T.set bk y):=fun y=>by rw [hTb];exact (Sub.refl _).skip _
  rw [← hT]
  try simp only [go_sem,seval,tb166,gT5]
  refine (terms_c B R a .none 4 (.inl rfl) T gTR).only ?_
  cases ha:a.all (termB B)
  · try simp only [go_sem,seval,tb166]
    exact .mk (.refl _) (by have:=hTs (ckO f grp locals base q);rw [set_self gTk] at this;exact this) ⟨rfl,q,rfl⟩
  try simp only [go_sem,seval,tb166]
  refine aloopT (mu:=[5]) (dr:=[(3,6,0),(8,39,0),(14,33,0)]) [6,10,207,208,209,210,211,212,213,214,215,216] (fun x:Nat×Nat=>[(207,vi x.1)]) (fun x=>T.set bk (ckO f grp locals base x.2)) (fun x=>x.1≤l.length∧x.2≤locals.length∧goalsS f grp locals base (l.take x.1) B q=some x.2) (fun x=>l.length-x.1) (0,q) (by kernel_rfl) ⟨by omega,hq,by simp [goalsS]⟩ ⟨.refl _,trivial⟩ (by rw [set_self gTk];exact .refl _) ?_
  rintro ⟨i,s1⟩ ⟨i1,i2,i3⟩
  simp only at i1 i2 i3
  try simp only [go_sem,seval,tb166,FGoal.embs_len]
  refine ⟨fun h1=>⟨by omega,h1,fun c hc=>?_⟩,fun h1=>?_⟩
  · rw [Int.toNat_natCast] at hc
    obtain ⟨x,hx,rfl⟩:=FGoal.embs_get hc
    have ihx:=ih x (List.mem_of_getElem? hx) B s1 R
    have hsp:=split_at hx
    have hgs:goalsS f grp locals base (l.take (i+1)) B q=goalS f grp locals base x B s1:=by
      rw [List.take_add_one,hx,Option.toList_some,goalsS_app,i3]
      simp only [Option.bind_some,goalsS]
      cases goalS f grp locals base x B s1<;>rfl
    generalize goalS f grp locals base x B s1=gx at ihx hgs
    obtain ⟨k',s',a',⟨ts',tl'⟩,l',n',g',e'⟩:=x
    simp only [FGoal.emb_mk] at ihx
    try simp only [go_sem,seval,tb166,FGoal.emb_mk]
    intro b10 hb10
    have n10k:b10≠bk:=fun e=>by have:=fresh_get hb10;rw [e,get_set_same gTk] at this;cases this
    have n10R:b10≠R:=fun e=>by have:=fresh_get hb10;rw [e,get_set_ne nRk,gTR] at this;cases this
    have n105:b10≠b5:=fun e=>by have:=fresh_get hb10;rw [e,get_set_ne n5k,gT5] at this;cases this
    try simp only [go_sem,seval,tb166,get_other n105,get_set_ne n5k,gT5]
    refine (ihx _ (by rw [get_other n10k,get_set_same gTk]) (by rw [get_other n10R,get_set_ne nRk,gTR]) i2).mono ?_
    rintro w S' hw
    cases gx with
    | none =>
      obtain ⟨hw1,s2,hw2⟩:=hw
      rw [hw1,hw2,set_other n10k,set_set]
      try simp only [go_sem,seval,tb166]
      have hn:goalsS f grp locals base l B q=none:=by
        have:=List.take_append_drop (i+1) l
        rw [← this,goalsS_app,hgs];rfl
      rw [hn]
      exact .mk (.refl _) ((hTs _).skip _) ⟨rfl,s2,rfl⟩
    | some s2 =>
      obtain ⟨hw1,hw2,hw3⟩:=hw
      rw [hw1,hw2,set_other n10k,set_set]
      try simp only [go_sem,seval,tb166]
      rw [show IntKind.i64.wrap ((i:Int)+1)=((i+1:Nat):Int) from wrap64 (by omega) (by omega)]
      exact .mk (i+1,s2) ⟨by omega,hw3,hgs⟩ (by simp only;omega) ⟨.refl _,trivial⟩ (by repeat first | exact Keeps.turn _ rfl | refine Keeps.put rfl ?_) ((Sub.refl _).skip _)
  · have hil:l.take i=l:=List.take_of_length_le (by omega)
    rw [hil] at i3
    rw [i3]
    exact .mk (.refl _) (hTs _) ⟨rfl,rfl,i2⟩
theorem goal_c (f:Flat)(grp:Int)(locals:List Ty)(base:Int)(bk:Nat)(hbase:0≤base∧base≤1000000000000)(hgrp:0≤grp)(hloc:locals.length≤1000000000000)(x:FGoal):GIH f grp locals base bk x:=by
  induction x using FGoal.ind with | h k s a t l n g e ih=>?_
  obtain ⟨ts,tl⟩:=t
  have hk:k=1∨k=10∨k=11∨k=7∨k=8∨(k≠1∧k≠10∧k≠11∧k≠7∧k≠8):=by omega
  rcases hk with rfl | rfl | rfl | rfl | rfl | ⟨k1,k10,k11,k7,k8⟩
  · exact goalA_c f grp locals base bk hbase hgrp hloc s ts a tl l n g e ih
  · exact goalQ10_c f grp locals base bk hbase hgrp hloc s ts a tl l n g e ih
  · exact goalQ11_c f grp locals base bk hbase hgrp hloc s ts a tl l n g e ih
  · exact goalI7_c f grp locals base bk hbase hgrp hloc s ts a tl l n g e ih
  · exact goalI8_c f grp locals base bk hbase hgrp hloc s ts a tl l n g e ih
  · exact goalO_c f grp locals base bk hbase hgrp hloc s ts a tl l n g e ih k k1 k10 k11 k7 k8
end Go.Vx
