/- Part Q24 of the proof of treeLooksProved: the walk of the program on abstract values, and the plain law. -/
import Derived.Test.YtmedmnondjmleaaGreatQ22
import Derived.Test.YtmedmnondjmleaaGreatQ23
set_option linter.unusedVariables false
set_option linter.unusedSimpArgs false
set_option maxRecDepth 100000
namespace Go.Vx
open Go.Proofs
theorem Zn:(Zz Tryz.prog 152 0=some 0)∧(Zh Tryz.prog 3=some 1)∧(Ze Tryz.prog 3=some false)∧(Zz Tryz.prog 152 4=some 5)∧(Zh Tryz.prog 130=some 1)∧(Ze Tryz.prog 130=some false)∧(Zz Tryz.prog 152 1=some 1)∧(Zh Tryz.prog 9=some 1)∧(Ze Tryz.prog 9=some false)∧(Zz Tryz.prog 152 2=some 2)∧(Zh Tryz.prog 33=some 1)∧(Ze Tryz.prog 33=some false)∧(Zz Tryz.prog 152 5=some 6)∧(Zz Tryz.prog 152 3=some 3)∧(Zz Tryz.prog 150 0=some 0)∧(Zz Tryz.prog 150 1=some 1)∧(Zh Tryz.prog 126=some 1)∧(Ze Tryz.prog 126=some false)∧(Zz Tryz.prog 152 6=some 7)∧(Zz Tryz.prog 152 7=some 8)∧(Zh Tryz.prog 23=some 1)∧(Ze Tryz.prog 23=some false)∧(Zz Tryz.prog 229 3=some 4)∧(Zz Tryz.prog 229 4=some 5)∧(Zz Tryz.prog 229 2=some 3)∧(Zh Tryz.prog 150=some 2)∧(Ze Tryz.prog 150=some true)∧(ZA Tryz.prog 126=some 150)∧(Zl Tryz.prog 150=some (.agg #[(.string ⟨#[]⟩),(.slice none 0 0)]))∧(Zh Tryz.prog 226=some 1)∧(Ze Tryz.prog 226=some false)∧(Zz Tryz.prog 229 1=some 2)∧(Zz Tryz.prog 229 0=some 0)∧(Zz Tryz.prog 25 0=some 0)∧(Zh Tryz.prog 22=some 1)∧(Ze Tryz.prog 22=some false)∧(ZA Tryz.prog 22=some 129)∧(Zh Tryz.prog 129=some 2)∧(Zz Tryz.prog 129 0=some 0)∧(ZA Tryz.prog 130=some 152)∧(Zh Tryz.prog 152=some 9)∧(Ze Tryz.prog 152=some true)∧(Zl Tryz.prog 152=some (.agg #[(.int .i64 0),(.string ⟨#[]⟩),(.slice none 0 0),(.string ⟨#[]⟩),(.slice none 0 0),(.slice none 0 0),(.int .i64 0),(.int .i64 0),(.slice none 0 0)]))∧(Tryz.prog.underlying 130=some (.slice 152))∧(Tryz.prog.underlying 33=some (.slice 52))∧(Tryz.prog.underlying 126=some (.slice 150))∧(Tryz.prog.underlying 23=some (.slice 3))∧(Tryz.prog.underlying 22=some (.slice 129)):=by
 refine ⟨?_,?_,?_,?_,?_,?_,?_,?_,?_,?_,?_,?_,?_,?_,?_,?_,?_,?_,?_,?_,?_,?_,?_,?_,?_,?_,?_,?_,?_,?_,?_,?_,?_,?_,?_,?_,?_,?_,?_,?_,?_,?_,?_,?_,?_,?_,?_,?_⟩<;>first | trivial | kernel_rfl
theorem Wl (s:Str):Pur Tryz.prog 165 [vs s] (vb (YP 1 s)):=by
 intro σ
 have h:Pur Tryz.prog 213 [vs s,vi 1] (vb (YP 1 s)):=by
  intro σ
  refine Zc [] [] Tryz.func213 rfl (by kernel_rfl) ?_;rw [Tryz.ntmps213,Tryz.results213]
  try simp only [go_sem,seval,Jg]
  refine (JV 1 0 s).use ?_
  try simp only [go_sem,seval,Jg]
  refine ZC ?_
  cases YP 1 s<;>simp
 refine Zc [] [] Tryz.func165 rfl (by kernel_rfl) ?_;rw [Tryz.ntmps165,Tryz.results165]
 try simp only [go_sem,seval,Jj]
 refine h.use ?_
 try simp only [go_sem,seval,Jj]
 exact Zu
def VR (k:Int):Int:=if k=1∨k=2∨k=3 then 0 else if k=4∨k=5∨k=6 then 2 else if k=9∨k=12∨k=10∨k=11∨k=7∨k=8 then 1 else -1
theorem UN (k:Int):Pur Tryz.prog 214 [vi k] (vi (VR k)):=by
 intro σ
 refine Zc [] [] Tryz.func214 rfl (by kernel_rfl) ?_;rw [Tryz.ntmps214,Tryz.results214]
 try simp only [go_sem,seval,aL]
 repeat first | exact X8 (by simp_all [VR]) | refine ⟨fun _=>?_,fun _=>?_⟩
def Z9 (k:Int)(s:Str)(la:Nat)(ts:Str)(tl:Nat)(ll:Nat)(n g:Int)(le:Nat):Bool :=
 decide ((ll:Int)=VR k)&&(if k=1 then ZN s else decide (s=ZS)&&decide (la=0)) &&
 (if k=10∨k=11 then true else decide (n=0)&&decide (ts=ZS)&&decide (tl=0))&&(if k=7∨k=8 then true else decide (g=0)&&decide (le=0))
def WV (locals:List Ty)(base:Int)(t:Ty)(n:Int)(sn:Nat):Bool :=
 decide (n=base+sn)&&(match locals[sn]? with | some u=>Ya t&&(Ya t&&Ya u&&SB t u) | none=>false)
def YS (f:Flat)(grp:Int)(g:Int)(e:List Int)(A:List Int):Bool :=
 decide (grp<g)&&(decide (0≤g)&&match f.groups[g.toNat]? with | some u=>decide (e.length=u.env.length) | none=>false)&&!(e.any fun n=>!decide (n∈A))
def YF (f:Flat)(grp:Int)(locals:List Ty)(base:Int)(k:Int)(t:Ty)(n g:Int)(e:List Int)(A:List Int)(sn:Nat):Option (List Int×Nat) :=
 if k=10∨k=11 then (if WV locals base t n sn then some (n::A,sn+1) else none)
 else if k=7∨k=8 then (if YS f grp g e A then some (A,sn) else none)
 else some (A,sn)
mutual
def Yr (f:Flat)(grp:Int)(locals:List Ty)(base:Int):Zg→List Int→Nat→Option Nat
 | .mk k s a t l n g e,A,sn =>
   if Z9 k s a.length (match t with | .mk ts _=>ts) (match t with | .mk _ tl=>tl.length) l.length n g e.length then
    match YF f grp locals base k t n g e A sn with
    | some q=>if a.all (XT q.1) then Z0 f grp locals base l q.1 q.2 else none
    | none=>none
   else none
def Z0 (f:Flat)(grp:Int)(locals:List Ty)(base:Int):List Zg→List Int→Nat→Option Nat
 | [],_,sn=>some sn
 | x::r,A,sn=>match Yr f grp locals base x A sn with
   | some s=>Z0 f grp locals base r A s
   | none=>none
end
theorem Uj {A B:List Int}(h:∀ x,x∈A↔x∈B):XT A=XT B:=by
 funext t
 simp only [XT,h]
theorem N3 {f:Flat}{grp:Int}{locals:List Ty}{base k:Int}{t:Ty}{n g:Int}{e:List Int}{A B:List Int}{sn:Nat}(h:∀ x,x∈A↔x∈B) :
 (YF f grp locals base k t n g e A sn=none∧YF f grp locals base k t n g e B sn=none)∨∃ A' B' s,YF f grp locals base k t n g e A sn=some (A',s)∧YF f grp locals base k t n g e B sn=some (B',s)∧∀ x,x∈A'↔x∈B':=by
 have hi:YS f grp g e A=YS f grp g e B:=by simp only [YS,h]
 unfold YF
 rw [hi]
 split
 ·split
  ·exact .inr ⟨_,_,_,rfl,rfl,by simp [h]⟩
  ·exact .inl ⟨rfl,rfl⟩
 ·split
  ·split
   ·exact .inr ⟨_,_,_,rfl,rfl,h⟩
   ·exact .inl ⟨rfl,rfl⟩
  ·exact .inr ⟨_,_,_,rfl,rfl,h⟩
mutual
theorem ME (f:Flat)(grp:Int)(locals:List Ty)(base:Int):∀ (x:Zg) (A B:List Int) (sn:Nat),(∀ y,y∈A↔y∈B)→Yr f grp locals base x A sn=Yr f grp locals base x B sn
 | .mk k s a t l n g e,A,B,sn,h=>by
   simp only [Yr]
   rcases N3 (f:=f) (grp:=grp) (locals:=locals) (base:=base) (k:=k) (t:=t) (n:=n) (g:=g) (e:=e) (sn:=sn) h with ⟨h1,h2⟩ | ⟨A',B',s',h1,h2,h3⟩
   ·rw [h1,h2]
   ·rw [h1,h2];simp only;rw [Uj h3,WI f grp locals base l A' B' s' h3]
theorem WI (f:Flat)(grp:Int)(locals:List Ty)(base:Int):∀ (x:List Zg) (A B:List Int) (sn:Nat),(∀ y,y∈A↔y∈B)→Z0 f grp locals base x A sn=Z0 f grp locals base x B sn
 | [],A,B,sn,h=>rfl
 | x::r,A,B,sn,h=>by
   simp only [Z0]
   rw [ME f grp locals base x A B sn h]
   cases Yr f grp locals base x B sn with
   | none=>rfl
   | some s=>exact WI f grp locals base r A B s h
end
theorem YJ (f:Flat)(grp:Int)(locals:List Ty)(base:Int)(l m:List Zg)(A:List Int)(sn:Nat):Z0 f grp locals base (l++m) A sn=(Z0 f grp locals base l A sn).bind (Z0 f grp locals base m A):=by
 induction l generalizing sn with
 | nil=>rfl
 | cons x r ih =>
   simp only [List.cons_append,Z0]
   cases Yr f grp locals base x A sn with
   | none=>rfl
   | some s=>exact ih s
def ckO (f:Flat)(grp:Int)(locals:List Ty)(base:Int)(sn:Nat):AObj:=.cells [.list .none 2 (cO f.groups),.list .none 1 (Yz f.rules),vi grp,.list .none 2 (cJ locals),vi (base+sn),vi sn]
theorem Zs {σ:Store}{b:Nat}{x:AObj}(h:σ.get b=some x):σ.set b x=σ:=by
 induction σ with
 | nil=>rfl
 | cons p r ih =>
   obtain ⟨c,y⟩:=p
   by_cases e:c=b
   ·subst e;rw [Zi] at h;injection h with h;rw [h,Z6]
   ·rw [Za e] at h;rw [Zk e,ih h]
def bK (f:Flat)(grp:Int)(locals:List Ty)(base:Int)(bk:Nat)(σ:Store)(o:Option Nat):ZO→Store→Prop:=fun x S'=>match o with
 | some sn'=>x=.ret (vb true)∧S'=σ.set bk (ckO f grp locals base sn')∧sn'≤locals.length
 | none=>x=.ret (vb false)∧∃ sn',S'=σ.set bk (ckO f grp locals base sn')
def GIH (f:Flat)(grp:Int)(locals:List Ty)(base:Int)(bk:Nat)(x:Zg):Prop:=∀ (A:List Int) (sn r:Nat) (σ:Store),
    σ.get bk=some (ckO f grp locals base sn)→σ.get r=some (.map (ZM keI (Yf A)) A.length)→sn≤locals.length →
    Zj Tryz.prog 166 [.val (.pointer (some ⟨bk,0,none⟩)),.agg x.emb,.val (.map (some r))] σ (bK f grp locals base bk σ (Yr f grp locals base x A sn))
theorem Cz (f:Flat)(grp:Int)(locals:List Ty)(base:Int)(bk:Nat)(hbase:0≤base∧base≤1000000000000)(hgrp:0≤grp)(hloc:locals.length≤1000000000000)(s ts:Str)(a:List Tm)(tl:List Ty)(l:List Zg)(n g:Int)(e:List Int)(ih:∀ x∈l,GIH f grp locals base bk x):GIH f grp locals base bk (.mk 1 s a (.mk ts tl) l n g e):=by
 obtain ⟨k,hk⟩:∃ k:Int,k=1:=⟨_,rfl⟩
 rw [← hk]
 intro A sn r σ gk gr hsn
 refine Zj.ok (by kernel_rfl) (fun hok=>?_)
 have hlen:=(((hok _ (List.mem_cons_of_mem _ List.mem_cons_self)).agg (c:=.list .none 9 (cN l)) (by simp [cp])).len)
 rw [cg] at hlen
 clear hok
 have hp:=UN k
 have hn:=Wl s
 rw [Yr]
 simp only [cp]
 obtain ⟨bL,fL⟩:∃ b,decide ((l.length:Int)=VR k)=b:=⟨_,rfl⟩
 obtain ⟨bN,fN⟩:∃ b,YP 1 s=b:=⟨_,rfl⟩
 obtain ⟨bS,fS⟩:∃ b,decide (s=ZS)=b:=⟨_,rfl⟩
 obtain ⟨bA,fA⟩:∃ b,decide (0<(a.length:Int))=b:=⟨_,rfl⟩
 obtain ⟨bn,fn⟩:∃ b,decide (n=0)=b:=⟨_,rfl⟩
 obtain ⟨bs,fs⟩:∃ b,decide (ts=ZS)=b:=⟨_,rfl⟩
 obtain ⟨bl,fl⟩:∃ b,decide (0<(tl.length:Int))=b:=⟨_,rfl⟩
 obtain ⟨bg,fg⟩:∃ b,decide (g=0)=b:=⟨_,rfl⟩
 obtain ⟨be,fe⟩:∃ b,decide (0<(e.length:Int))=b:=⟨_,rfl⟩
 have fA2:decide (a.length=0)=!bA:=by rw [← fA,← decide_not];exact decide_eq_decide.2 (by omega)
 have fl2:decide (tl.length=0)=!bl:=by rw [← fl,← decide_not];exact decide_eq_decide.2 (by omega)
 have fe2:decide (e.length=0)=!be:=by rw [← fe,← decide_not];exact decide_eq_decide.2 (by omega)
 rw [fN] at hn
 have gk':=gk
 unfold ckO at gk'
 obtain ⟨o,ho⟩:∃ o,YF f grp locals base k (.mk ts tl) n g e A sn=o:=⟨_,rfl⟩
 rw [ho]
 have hfk:∀ {b:Nat},Zx σ b→b≠bk:=fun h e=>by have:=Zm h;rw [e,gk] at this;cases this
 have hfr:∀ {b:Nat},Zx σ b→b≠r:=fun h e=>by have:=Zm h;rw [e,gr] at this;cases this
 have hkr:bk≠r:=fun e=>by rw [e,gr] at gk;cases gk
 subst hk
 refine Zc [5] [(3,6,0),(8,39,0),(14,33,0)] Tryz.func166 rfl (by kernel_rfl) ?_;rw [Tryz.ntmps166,Tryz.results166]
 refine eP ?_
 intro b5 hb5
 refine fF ?_
 refine hp.head ?_
 refine dY ?_
 cases bL
 ·refine dY ?_
  rw [if_neg (by simp only [Z9,ZN,fL,fN,fS,fA2,fn,fs,fl2,fg,fe2];simp)]
  exact ed
 refine dY ?_
 refine hn.use ?_
 cases bN
 ·refine dY ?_
  rw [if_neg (by simp only [Z9,ZN,fL,fN,fS,fA2,fn,fs,fl2,fg,fe2];simp)]
  exact ed
 cases bn
 ·refine dY ?_
  rw [if_neg (by simp only [Z9,ZN,fL,fN,fS,fA2,fn,fs,fl2,fg,fe2];simp)]
  exact ed
 refine dY ?_
 cases bs
 ·refine dY ?_
  rw [if_neg (by simp only [Z9,ZN,fL,fN,fS,fA2,fn,fs,fl2,fg,fe2];simp)]
  exact ed
 refine dY ?_
 cases bl
 rotate_left
 ·refine dY ?_
  rw [if_neg (by simp only [Z9,ZN,fL,fN,fS,fA2,fn,fs,fl2,fg,fe2];simp)]
  exact ed
 refine dY ?_
 cases bg
 ·refine dY ?_
  rw [if_neg (by simp only [Z9,ZN,fL,fN,fS,fA2,fn,fs,fl2,fg,fe2];simp)]
  exact ed
 refine dY ?_
 cases be
 rotate_left
 ·refine dY ?_
  rw [if_neg (by simp only [Z9,ZN,fL,fN,fS,fA2,fn,fs,fl2,fg,fe2];simp)]
  exact ed
 refine dY ?_
 refine dY ?_
 have hst:o=some (A,sn):=by rw [← ho];simp [YF]
 have hq:sn≤locals.length:=hsn
 rw [hst,if_pos (by simp only [Z9,ZN,fL,fN,fS,fA2,fn,fs,fl2,fg,fe2];simp [*])]
 simp only
 obtain ⟨q,hqe⟩:∃ q,q=sn:=⟨_,rfl⟩
 rw [← hqe] at hq gk ⊢
 obtain ⟨B,hBe⟩:∃ B,B=A:=⟨_,rfl⟩
 rw [← hBe] at gr ⊢
 obtain ⟨R,hRe⟩:∃ R,R=r:=⟨_,rfl⟩
 rw [← hRe] at gr hkr ⊢
 obtain ⟨T,hT⟩:∃ T:Store,T=(b5,.cells [.val (.map (some R))])::σ:=⟨_,rfl⟩
 have n5k:=hfk hb5
 have nRk:R≠bk:=Ne.symm hkr
 have hTb:∀ y,T.set bk y=(b5,.cells [.val (.map (some R))])::σ.set bk y:=fun y=>by rw [hT,Zk n5k]
 have gTR:T.get R=some (AObj.map (ZM keI (Yf B)) B.length):=by rw [hT,Za (by rw [hRe];exact hfr hb5)];exact gr
 have gT5:T.get b5=some (.cells [.val (.map (some R))]):=by rw [hT,Zi]
 have gTk:T.get bk=some (ckO f grp locals base q):=by rw [hT,Za n5k];exact gk
 have hTs:∀ y,Sub (σ.set bk y) (T.set bk y):=fun y=>by rw [hTb];exact (Sub.refl _).skip _
 rw [← hT]
 refine iJ ?_
 refine (VN B R a .none 4 (.inl rfl) T gTR).only ?_
 cases ha:a.all (XT B)
 ·refine eP ?_
  exact .mk (.refl _) (by have:=hTs (ckO f grp locals base q);rw [Zs gTk] at this;exact this) ⟨rfl,q,rfl⟩
 refine eP ?_
 refine Zv (mu:=[5]) (dr:=[(3,6,0),(8,39,0),(14,33,0)]) [6,10,207,208,209,210,211,212,213,214,215,216] (fun x:Nat×Nat=>[(207,vi x.1)]) (fun x=>T.set bk (ckO f grp locals base x.2)) (fun x=>x.1≤l.length∧x.2≤locals.length∧Z0 f grp locals base (l.take x.1) B q=some x.2) (fun x=>l.length-x.1) (0,q) (by kernel_rfl) ⟨by omega,hq,by simp [Z0]⟩ ⟨.refl _,trivial⟩ (by rw [Zs gTk];exact .refl _) ?_
 rintro ⟨i,s1⟩ ⟨i1,i2,i3⟩
 simp only at i1 i2 i3
 refine fF ?_
 refine ⟨fun h1=>⟨by omega,h1,fun c hc=>?_⟩,fun h1=>?_⟩
 ·rw [Int.toNat_natCast] at hc
  obtain ⟨x,hx,rfl⟩:=cQ hc
  have ihx:=ih x (List.mem_of_getElem? hx) B s1 R
  have hsp:=Ys hx
  have hgs:Z0 f grp locals base (l.take (i+1)) B q=Yr f grp locals base x B s1:=by
   rw [List.take_add_one,hx,Option.toList_some,YJ,i3]
   simp only [Option.bind_some,Z0]
   cases Yr f grp locals base x B s1<;>rfl
  generalize Yr f grp locals base x B s1=gx at ihx hgs
  obtain ⟨k',s',a',⟨ts',tl'⟩,l',n',g',e'⟩:=x
  simp only [cp] at ihx
  refine iS ?_
  intro b10 hb10
  have n10k:b10≠bk:=fun e=>by have:=Zm hb10;rw [e,Zd gTk] at this;cases this
  have n10R:b10≠R:=fun e=>by have:=Zm hb10;rw [e,Zb nRk,gTR] at this;cases this
  have n105:b10≠b5:=fun e=>by have:=Zm hb10;rw [e,Zb n5k,gT5] at this;cases this
  refine fZ ?_
  refine (ihx _ (by rw [Za n10k,Zd gTk]) (by rw [Za n10R,Zb nRk,gTR]) i2).mono ?_
  rintro w S' hw
  cases gx with
  | none =>
    obtain ⟨hw1,s2,hw2⟩:=hw
    rw [hw1,hw2,Zk n10k,Zw]
    refine eP ?_
    have hn:Z0 f grp locals base l B q=none:=by
     have:=List.take_append_drop (i+1) l
     rw [← this,YJ,hgs];rfl
    rw [hn]
    exact fp
  | some s2 =>
    obtain ⟨hw1,hw2,hw3⟩:=hw
    rw [hw1,hw2,Zk n10k,Zw]
    refine eP ?_
    rw [show IntKind.i64.wrap ((i:Int)+1)=((i+1:Nat):Int) from Zp (by omega) (by omega)]
    exact .mk (i+1,s2) ⟨by omega,hw3,hgs⟩ (by simp only;omega) ⟨.refl _,trivial⟩ (by repeat first | exact Zf.turn _ rfl | refine Zf.put rfl ?_) ((Sub.refl _).skip _)
 ·have hil:l.take i=l:=List.take_of_length_le (by omega)
  rw [hil] at i3
  rw [i3]
  exact fI
theorem Hc (f:Flat)(grp:Int)(locals:List Ty)(base:Int)(bk:Nat)(hbase:0≤base∧base≤1000000000000)(hgrp:0≤grp)(hloc:locals.length≤1000000000000)(s ts:Str)(a:List Tm)(tl:List Ty)(l:List Zg)(n g:Int)(e:List Int)(ih:∀ x∈l,GIH f grp locals base bk x):GIH f grp locals base bk (.mk 10 s a (.mk ts tl) l n g e):=by
 obtain ⟨k,hk⟩:∃ k:Int,k=10:=⟨_,rfl⟩
 rw [← hk]
 intro A sn r σ gk gr hsn
 refine Zj.ok (by kernel_rfl) (fun hok=>?_)
 have hlen:=(((hok _ (List.mem_cons_of_mem _ List.mem_cons_self)).agg (c:=.list .none 9 (cN l)) (by simp [cp])).len)
 rw [cg] at hlen
 clear hok
 have hp:=UN k
 have hn:=Wl s
 rw [Yr]
 simp only [cp]
 obtain ⟨bL,fL⟩:∃ b,decide ((l.length:Int)=VR k)=b:=⟨_,rfl⟩
 obtain ⟨bN,fN⟩:∃ b,YP 1 s=b:=⟨_,rfl⟩
 obtain ⟨bS,fS⟩:∃ b,decide (s=ZS)=b:=⟨_,rfl⟩
 obtain ⟨bA,fA⟩:∃ b,decide (0<(a.length:Int))=b:=⟨_,rfl⟩
 obtain ⟨bn,fn⟩:∃ b,decide (n=0)=b:=⟨_,rfl⟩
 obtain ⟨bs,fs⟩:∃ b,decide (ts=ZS)=b:=⟨_,rfl⟩
 obtain ⟨bl,fl⟩:∃ b,decide (0<(tl.length:Int))=b:=⟨_,rfl⟩
 obtain ⟨bg,fg⟩:∃ b,decide (g=0)=b:=⟨_,rfl⟩
 obtain ⟨be,fe⟩:∃ b,decide (0<(e.length:Int))=b:=⟨_,rfl⟩
 have fA2:decide (a.length=0)=!bA:=by rw [← fA,← decide_not];exact decide_eq_decide.2 (by omega)
 have fl2:decide (tl.length=0)=!bl:=by rw [← fl,← decide_not];exact decide_eq_decide.2 (by omega)
 have fe2:decide (e.length=0)=!be:=by rw [← fe,← decide_not];exact decide_eq_decide.2 (by omega)
 rw [fN] at hn
 have gk':=gk
 unfold ckO at gk'
 obtain ⟨o,ho⟩:∃ o,YF f grp locals base k (.mk ts tl) n g e A sn=o:=⟨_,rfl⟩
 rw [ho]
 have hfk:∀ {b:Nat},Zx σ b→b≠bk:=fun h e=>by have:=Zm h;rw [e,gk] at this;cases this
 have hfr:∀ {b:Nat},Zx σ b→b≠r:=fun h e=>by have:=Zm h;rw [e,gr] at this;cases this
 have hkr:bk≠r:=fun e=>by rw [e,gr] at gk;cases gk
 subst hk
 refine Zc [5] [(3,6,0),(8,39,0),(14,33,0)] Tryz.func166 rfl (by kernel_rfl) ?_;rw [Tryz.ntmps166,Tryz.results166]
 refine eP ?_
 intro b5 hb5
 refine fF ?_
 refine hp.head ?_
 refine dY ?_
 cases bL
 ·refine dY ?_
  rw [if_neg (by simp only [Z9,ZN,fL,fN,fS,fA2,fn,fs,fl2,fg,fe2];simp)]
  exact ed
 refine dY ?_
 cases bS
 ·refine dY ?_
  rw [if_neg (by simp only [Z9,ZN,fL,fN,fS,fA2,fn,fs,fl2,fg,fe2];simp)]
  exact ed
 refine dY ?_
 cases bA
 rotate_left
 ·refine dY ?_
  rw [if_neg (by simp only [Z9,ZN,fL,fN,fS,fA2,fn,fs,fl2,fg,fe2];simp)]
  exact ed
 refine dY ?_
 cases bg
 ·refine dY ?_
  rw [if_neg (by simp only [Z9,ZN,fL,fN,fS,fA2,fn,fs,fl2,fg,fe2];simp)]
  exact ed
 refine dY ?_
 cases be
 rotate_left
 ·refine dY ?_
  rw [if_neg (by simp only [Z9,ZN,fL,fN,fS,fA2,fn,fs,fl2,fg,fe2];simp)]
  exact ed
 refine dY ?_
 obtain ⟨bq,fq⟩:∃ b,decide (n=base+(sn:Int))=b:=⟨_,rfl⟩
 refine ea ?_
 cases bq
 ·refine ea ?_
  have hst:o=none:=by clear ih;rw [← ho];clear ho;simp [YF,WV,YS, *]
  refine ia ?_
  exact ed
 refine ea ?_
 refine ⟨fun h1=>⟨by simp [apZ],?_⟩,fun h1=>?_⟩
 rotate_left
 ·have h2:locals[sn]?=none:=List.getElem?_eq_none (by omega)
  refine ea ?_
  have hst:o=none:=by clear ih;rw [← ho];clear ho;simp [YF,WV,YS, *]
  refine ia ?_
  exact ed
 have h2:locals[sn]?=some locals[sn]:=List.getElem?_eq_getElem (by omega)
 generalize locals[sn]=u at h2
 refine (VG [.mk ts tl] .full 2 (.inl rfl)).head ?_
 obtain ⟨bf,ff⟩:∃ b,Ya (.mk ts tl)=b:=⟨_,rfl⟩
 simp only [List.all_cons,List.all_nil,Bool.and_true,ff]
 cases bf
 ·refine ea ?_
  have hst:o=none:=by clear ih;rw [← ho];clear ho;simp [YF,WV,YS, *]
  refine ia ?_
  exact ed
 refine ea ?_
 refine ⟨by omega,by omega,fun c hc=>?_⟩
 rw [Int.toNat_natCast] at hc
 obtain ⟨u',hu,rfl⟩:=cX hc
 obtain rfl:u=u':=by rw [h2] at hu;injection hu
 have hsame:=R6 (.mk ts tl) u
 rw [ff,Bool.true_and] at hsame
 obtain ⟨bu,fu⟩:∃ b,(Ya u&&SB (.mk ts tl) u)=b:=⟨_,rfl⟩
 rw [fu] at hsame
 obtain ⟨us,ul⟩:=u
 simp only [cG] at hsame ⊢
 refine ea ?_
 refine hsame.use ?_
 cases bu
 ·refine ea ?_
  have hst:o=none:=by clear ih;rw [← ho];clear ho;simp [YF,WV,YS, *]
  refine ia ?_
  exact ed
 refine ea ?_
 have hw1:IntKind.i64.wrap (base+(sn:Int)+1)=base+((sn+1:Nat):Int):=by rw [Zp (by omega) (by omega)];omega
 have hw2:IntKind.i64.wrap ((sn:Int)+1)=((sn+1:Nat):Int):=Zp (by omega) (by omega)
 rw [hw1,hw2]
 have hck:AObj.cells [.list .none 2 (cO f.groups),.list .none 1 (Yz f.rules),vi grp,.list .none 2 (cJ locals),vi (base+((sn+1:Nat):Int)),vi ((sn+1:Nat):Int)]=ckO f grp locals base (sn+1):=rfl
 rw [hck]
 refine (H1 _ r A n (by rw [Za (hfr hb5),Zb (Ne.symm hkr)];exact gr)).mono ?_
 rintro w S' ⟨R,B,hw,fr',hS',hB⟩
 rw [hw,hS']
 try simp only [go_sem,seval,Zn,Zk (Ne.symm fr'.1),Za (Ne.symm fr'.1)]
 have hst:o=some (n::A,sn+1):=by clear ih;rw [← ho];clear ho;simp [YF,WV, *]
 have hq:sn+1≤locals.length:=by omega
 obtain ⟨q,hqe⟩:∃ q,q=sn+1:=⟨_,rfl⟩
 rw [← hqe] at hq hst ⊢
 rw [hst,if_pos (by simp only [Z9,ZN,fL,fN,fS,fA2,fn,fs,fl2,fg,fe2];simp)]
 simp only
 have hBc:∀ y,y∈n::A↔y∈B:=fun y=>by rw [hB];simp
 rw [Uj hBc,WI f grp locals base l _ _ q hBc]
 obtain ⟨T,hT⟩:∃ T:Store,T=(R,AObj.map (ZM keI (Yf B)) B.length)::(b5,.cells [.val (.map (some R))])::σ.set bk (ckO f grp locals base q):=⟨_,rfl⟩
 have n5k:=hfk hb5
 have nRk:R≠bk:=fun e=>by have:=Zm fr'.2;rw [e,Zd gk] at this;cases this
 have hTb:∀ y,T.set bk y=(R,AObj.map (ZM keI (Yf B)) B.length)::(b5,.cells [.val (.map (some R))])::σ.set bk y:=fun y=>by rw [hT,Zk nRk,Zk n5k,Zw]
 have gTR:T.get R=some (AObj.map (ZM keI (Yf B)) B.length):=by rw [hT,Zi]
 have gT5:T.get b5=some (.cells [.val (.map (some R))]):=by rw [hT,Za (Ne.symm fr'.1),Zi]
 have gTk:T.get bk=some (ckO f grp locals base q):=by rw [hT,Za nRk,Za n5k,Zd gk]
 have hTs:∀ y,Sub (σ.set bk y) (T.set bk y):=fun y=>by rw [hTb];exact ((Sub.refl _).skip _).skip _
 rw [← hT]
 refine iJ ?_
 refine (VN B R a .none 4 (.inl rfl) T gTR).only ?_
 cases ha:a.all (XT B)
 ·refine eP ?_
  exact .mk (.refl _) (by have:=hTs (ckO f grp locals base q);rw [Zs gTk] at this;exact this) ⟨rfl,q,rfl⟩
 refine eP ?_
 refine Zv (mu:=[5]) (dr:=[(3,6,0),(8,39,0),(14,33,0)]) [6,10,207,208,209,210,211,212,213,214,215,216] (fun x:Nat×Nat=>[(207,vi x.1)]) (fun x=>T.set bk (ckO f grp locals base x.2)) (fun x=>x.1≤l.length∧x.2≤locals.length∧Z0 f grp locals base (l.take x.1) B q=some x.2) (fun x=>l.length-x.1) (0,q) (by kernel_rfl) ⟨by omega,hq,by simp [Z0]⟩ ⟨.refl _,trivial⟩ (by rw [Zs gTk];exact .refl _) ?_
 rintro ⟨i,s1⟩ ⟨i1,i2,i3⟩
 simp only at i1 i2 i3
 refine fF ?_
 refine ⟨fun h1=>⟨by omega,h1,fun c hc=>?_⟩,fun h1=>?_⟩
 ·rw [Int.toNat_natCast] at hc
  obtain ⟨x,hx,rfl⟩:=cQ hc
  have ihx:=ih x (List.mem_of_getElem? hx) B s1 R
  have hsp:=Ys hx
  have hgs:Z0 f grp locals base (l.take (i+1)) B q=Yr f grp locals base x B s1:=by
   rw [List.take_add_one,hx,Option.toList_some,YJ,i3]
   simp only [Option.bind_some,Z0]
   cases Yr f grp locals base x B s1<;>rfl
  generalize Yr f grp locals base x B s1=gx at ihx hgs
  obtain ⟨k',s',a',⟨ts',tl'⟩,l',n',g',e'⟩:=x
  simp only [cp] at ihx
  refine iS ?_
  intro b10 hb10
  have n10k:b10≠bk:=fun e=>by have:=Zm hb10;rw [e,Zd gTk] at this;cases this
  have n10R:b10≠R:=fun e=>by have:=Zm hb10;rw [e,Zb nRk,gTR] at this;cases this
  have n105:b10≠b5:=fun e=>by have:=Zm hb10;rw [e,Zb n5k,gT5] at this;cases this
  refine fZ ?_
  refine (ihx _ (by rw [Za n10k,Zd gTk]) (by rw [Za n10R,Zb nRk,gTR]) i2).mono ?_
  rintro w S' hw
  cases gx with
  | none =>
    obtain ⟨hw1,s2,hw2⟩:=hw
    rw [hw1,hw2,Zk n10k,Zw]
    refine eP ?_
    have hn:Z0 f grp locals base l B q=none:=by
     have:=List.take_append_drop (i+1) l
     rw [← this,YJ,hgs];rfl
    rw [hn]
    exact fp
  | some s2 =>
    obtain ⟨hw1,hw2,hw3⟩:=hw
    rw [hw1,hw2,Zk n10k,Zw]
    refine eP ?_
    rw [show IntKind.i64.wrap ((i:Int)+1)=((i+1:Nat):Int) from Zp (by omega) (by omega)]
    exact .mk (i+1,s2) ⟨by omega,hw3,hgs⟩ (by simp only;omega) ⟨.refl _,trivial⟩ (by repeat first | exact Zf.turn _ rfl | refine Zf.put rfl ?_) ((Sub.refl _).skip _)
 ·have hil:l.take i=l:=List.take_of_length_le (by omega)
  rw [hil] at i3
  rw [i3]
  exact fI
theorem Hb (f:Flat)(grp:Int)(locals:List Ty)(base:Int)(bk:Nat)(hbase:0≤base∧base≤1000000000000)(hgrp:0≤grp)(hloc:locals.length≤1000000000000)(s ts:Str)(a:List Tm)(tl:List Ty)(l:List Zg)(n g:Int)(e:List Int)(ih:∀ x∈l,GIH f grp locals base bk x):GIH f grp locals base bk (.mk 11 s a (.mk ts tl) l n g e):=by
 obtain ⟨k,hk⟩:∃ k:Int,k=11:=⟨_,rfl⟩
 rw [← hk]
 intro A sn r σ gk gr hsn
 refine Zj.ok (by kernel_rfl) (fun hok=>?_)
 have hlen:=(((hok _ (List.mem_cons_of_mem _ List.mem_cons_self)).agg (c:=.list .none 9 (cN l)) (by simp [cp])).len)
 rw [cg] at hlen
 clear hok
 have hp:=UN k
 have hn:=Wl s
 rw [Yr]
 simp only [cp]
 obtain ⟨bL,fL⟩:∃ b,decide ((l.length:Int)=VR k)=b:=⟨_,rfl⟩
 obtain ⟨bN,fN⟩:∃ b,YP 1 s=b:=⟨_,rfl⟩
 obtain ⟨bS,fS⟩:∃ b,decide (s=ZS)=b:=⟨_,rfl⟩
 obtain ⟨bA,fA⟩:∃ b,decide (0<(a.length:Int))=b:=⟨_,rfl⟩
 obtain ⟨bn,fn⟩:∃ b,decide (n=0)=b:=⟨_,rfl⟩
 obtain ⟨bs,fs⟩:∃ b,decide (ts=ZS)=b:=⟨_,rfl⟩
 obtain ⟨bl,fl⟩:∃ b,decide (0<(tl.length:Int))=b:=⟨_,rfl⟩
 obtain ⟨bg,fg⟩:∃ b,decide (g=0)=b:=⟨_,rfl⟩
 obtain ⟨be,fe⟩:∃ b,decide (0<(e.length:Int))=b:=⟨_,rfl⟩
 have fA2:decide (a.length=0)=!bA:=by rw [← fA,← decide_not];exact decide_eq_decide.2 (by omega)
 have fl2:decide (tl.length=0)=!bl:=by rw [← fl,← decide_not];exact decide_eq_decide.2 (by omega)
 have fe2:decide (e.length=0)=!be:=by rw [← fe,← decide_not];exact decide_eq_decide.2 (by omega)
 rw [fN] at hn
 have gk':=gk
 unfold ckO at gk'
 obtain ⟨o,ho⟩:∃ o,YF f grp locals base k (.mk ts tl) n g e A sn=o:=⟨_,rfl⟩
 rw [ho]
 have hfk:∀ {b:Nat},Zx σ b→b≠bk:=fun h e=>by have:=Zm h;rw [e,gk] at this;cases this
 have hfr:∀ {b:Nat},Zx σ b→b≠r:=fun h e=>by have:=Zm h;rw [e,gr] at this;cases this
 have hkr:bk≠r:=fun e=>by rw [e,gr] at gk;cases gk
 subst hk
 refine Zc [5] [(3,6,0),(8,39,0),(14,33,0)] Tryz.func166 rfl (by kernel_rfl) ?_;rw [Tryz.ntmps166,Tryz.results166]
 refine eP ?_
 intro b5 hb5
 refine fF ?_
 refine hp.head ?_
 refine dY ?_
 cases bL
 ·refine dY ?_
  rw [if_neg (by simp only [Z9,ZN,fL,fN,fS,fA2,fn,fs,fl2,fg,fe2];simp)]
  exact ed
 refine dY ?_
 cases bS
 ·refine dY ?_
  rw [if_neg (by simp only [Z9,ZN,fL,fN,fS,fA2,fn,fs,fl2,fg,fe2];simp)]
  exact ed
 refine dY ?_
 cases bA
 rotate_left
 ·refine dY ?_
  rw [if_neg (by simp only [Z9,ZN,fL,fN,fS,fA2,fn,fs,fl2,fg,fe2];simp)]
  exact ed
 refine dY ?_
 cases bg
 ·refine dY ?_
  rw [if_neg (by simp only [Z9,ZN,fL,fN,fS,fA2,fn,fs,fl2,fg,fe2];simp)]
  exact ed
 refine dY ?_
 cases be
 rotate_left
 ·refine dY ?_
  rw [if_neg (by simp only [Z9,ZN,fL,fN,fS,fA2,fn,fs,fl2,fg,fe2];simp)]
  exact ed
 refine dY ?_
 obtain ⟨bq,fq⟩:∃ b,decide (n=base+(sn:Int))=b:=⟨_,rfl⟩
 refine ea ?_
 cases bq
 ·refine ea ?_
  have hst:o=none:=by clear ih;rw [← ho];clear ho;simp [YF,WV,YS, *]
  refine ia ?_
  exact ed
 refine ea ?_
 refine ⟨fun h1=>⟨by simp [apZ],?_⟩,fun h1=>?_⟩
 rotate_left
 ·have h2:locals[sn]?=none:=List.getElem?_eq_none (by omega)
  refine ea ?_
  have hst:o=none:=by clear ih;rw [← ho];clear ho;simp [YF,WV,YS, *]
  refine ia ?_
  exact ed
 have h2:locals[sn]?=some locals[sn]:=List.getElem?_eq_getElem (by omega)
 generalize locals[sn]=u at h2
 refine (VG [.mk ts tl] .full 2 (.inl rfl)).head ?_
 obtain ⟨bf,ff⟩:∃ b,Ya (.mk ts tl)=b:=⟨_,rfl⟩
 simp only [List.all_cons,List.all_nil,Bool.and_true,ff]
 cases bf
 ·refine ea ?_
  have hst:o=none:=by clear ih;rw [← ho];clear ho;simp [YF,WV,YS, *]
  refine ia ?_
  exact ed
 refine ea ?_
 refine ⟨by omega,by omega,fun c hc=>?_⟩
 rw [Int.toNat_natCast] at hc
 obtain ⟨u',hu,rfl⟩:=cX hc
 obtain rfl:u=u':=by rw [h2] at hu;injection hu
 have hsame:=R6 (.mk ts tl) u
 rw [ff,Bool.true_and] at hsame
 obtain ⟨bu,fu⟩:∃ b,(Ya u&&SB (.mk ts tl) u)=b:=⟨_,rfl⟩
 rw [fu] at hsame
 obtain ⟨us,ul⟩:=u
 simp only [cG] at hsame ⊢
 refine ea ?_
 refine hsame.use ?_
 cases bu
 ·refine ea ?_
  have hst:o=none:=by clear ih;rw [← ho];clear ho;simp [YF,WV,YS, *]
  refine ia ?_
  exact ed
 refine ea ?_
 have hw1:IntKind.i64.wrap (base+(sn:Int)+1)=base+((sn+1:Nat):Int):=by rw [Zp (by omega) (by omega)];omega
 have hw2:IntKind.i64.wrap ((sn:Int)+1)=((sn+1:Nat):Int):=Zp (by omega) (by omega)
 rw [hw1,hw2]
 have hck:AObj.cells [.list .none 2 (cO f.groups),.list .none 1 (Yz f.rules),vi grp,.list .none 2 (cJ locals),vi (base+((sn+1:Nat):Int)),vi ((sn+1:Nat):Int)]=ckO f grp locals base (sn+1):=rfl
 rw [hck]
 refine (H1 _ r A n (by rw [Za (hfr hb5),Zb (Ne.symm hkr)];exact gr)).mono ?_
 rintro w S' ⟨R,B,hw,fr',hS',hB⟩
 rw [hw,hS']
 try simp only [go_sem,seval,Zn,Zk (Ne.symm fr'.1),Za (Ne.symm fr'.1)]
 have hst:o=some (n::A,sn+1):=by clear ih;rw [← ho];clear ho;simp [YF,WV, *]
 have hq:sn+1≤locals.length:=by omega
 obtain ⟨q,hqe⟩:∃ q,q=sn+1:=⟨_,rfl⟩
 rw [← hqe] at hq hst ⊢
 rw [hst,if_pos (by simp only [Z9,ZN,fL,fN,fS,fA2,fn,fs,fl2,fg,fe2];simp)]
 simp only
 have hBc:∀ y,y∈n::A↔y∈B:=fun y=>by rw [hB];simp
 rw [Uj hBc,WI f grp locals base l _ _ q hBc]
 obtain ⟨T,hT⟩:∃ T:Store,T=(R,AObj.map (ZM keI (Yf B)) B.length)::(b5,.cells [.val (.map (some R))])::σ.set bk (ckO f grp locals base q):=⟨_,rfl⟩
 have n5k:=hfk hb5
 have nRk:R≠bk:=fun e=>by have:=Zm fr'.2;rw [e,Zd gk] at this;cases this
 have hTb:∀ y,T.set bk y=(R,AObj.map (ZM keI (Yf B)) B.length)::(b5,.cells [.val (.map (some R))])::σ.set bk y:=fun y=>by rw [hT,Zk nRk,Zk n5k,Zw]
 have gTR:T.get R=some (AObj.map (ZM keI (Yf B)) B.length):=by rw [hT,Zi]
 have gT5:T.get b5=some (.cells [.val (.map (some R))]):=by rw [hT,Za (Ne.symm fr'.1),Zi]
 have gTk:T.get bk=some (ckO f grp locals base q):=by rw [hT,Za nRk,Za n5k,Zd gk]
 have hTs:∀ y,Sub (σ.set bk y) (T.set bk y):=fun y=>by rw [hTb];exact ((Sub.refl _).skip _).skip _
 rw [← hT]
 refine iJ ?_
 refine (VN B R a .none 4 (.inl rfl) T gTR).only ?_
 cases ha:a.all (XT B)
 ·refine eP ?_
  exact .mk (.refl _) (by have:=hTs (ckO f grp locals base q);rw [Zs gTk] at this;exact this) ⟨rfl,q,rfl⟩
 refine eP ?_
 refine Zv (mu:=[5]) (dr:=[(3,6,0),(8,39,0),(14,33,0)]) [6,10,207,208,209,210,211,212,213,214,215,216] (fun x:Nat×Nat=>[(207,vi x.1)]) (fun x=>T.set bk (ckO f grp locals base x.2)) (fun x=>x.1≤l.length∧x.2≤locals.length∧Z0 f grp locals base (l.take x.1) B q=some x.2) (fun x=>l.length-x.1) (0,q) (by kernel_rfl) ⟨by omega,hq,by simp [Z0]⟩ ⟨.refl _,trivial⟩ (by rw [Zs gTk];exact .refl _) ?_
 rintro ⟨i,s1⟩ ⟨i1,i2,i3⟩
 simp only at i1 i2 i3
 refine fF ?_
 refine ⟨fun h1=>⟨by omega,h1,fun c hc=>?_⟩,fun h1=>?_⟩
 ·rw [Int.toNat_natCast] at hc
  obtain ⟨x,hx,rfl⟩:=cQ hc
  have ihx:=ih x (List.mem_of_getElem? hx) B s1 R
  have hsp:=Ys hx
  have hgs:Z0 f grp locals base (l.take (i+1)) B q=Yr f grp locals base x B s1:=by
   rw [List.take_add_one,hx,Option.toList_some,YJ,i3]
   simp only [Option.bind_some,Z0]
   cases Yr f grp locals base x B s1<;>rfl
  generalize Yr f grp locals base x B s1=gx at ihx hgs
  obtain ⟨k',s',a',⟨ts',tl'⟩,l',n',g',e'⟩:=x
  simp only [cp] at ihx
  refine iS ?_
  intro b10 hb10
  have n10k:b10≠bk:=fun e=>by have:=Zm hb10;rw [e,Zd gTk] at this;cases this
  have n10R:b10≠R:=fun e=>by have:=Zm hb10;rw [e,Zb nRk,gTR] at this;cases this
  have n105:b10≠b5:=fun e=>by have:=Zm hb10;rw [e,Zb n5k,gT5] at this;cases this
  refine fZ ?_
  refine (ihx _ (by rw [Za n10k,Zd gTk]) (by rw [Za n10R,Zb nRk,gTR]) i2).mono ?_
  rintro w S' hw
  cases gx with
  | none =>
    obtain ⟨hw1,s2,hw2⟩:=hw
    rw [hw1,hw2,Zk n10k,Zw]
    refine eP ?_
    have hn:Z0 f grp locals base l B q=none:=by
     have:=List.take_append_drop (i+1) l
     rw [← this,YJ,hgs];rfl
    rw [hn]
    exact fp
  | some s2 =>
    obtain ⟨hw1,hw2,hw3⟩:=hw
    rw [hw1,hw2,Zk n10k,Zw]
    refine eP ?_
    rw [show IntKind.i64.wrap ((i:Int)+1)=((i+1:Nat):Int) from Zp (by omega) (by omega)]
    exact .mk (i+1,s2) ⟨by omega,hw3,hgs⟩ (by simp only;omega) ⟨.refl _,trivial⟩ (by repeat first | exact Zf.turn _ rfl | refine Zf.put rfl ?_) ((Sub.refl _).skip _)
 ·have hil:l.take i=l:=List.take_of_length_le (by omega)
  rw [hil] at i3
  rw [i3]
  exact fI
theorem F6 (f:Flat)(grp:Int)(locals:List Ty)(base:Int)(bk:Nat)(hbase:0≤base∧base≤1000000000000)(hgrp:0≤grp)(hloc:locals.length≤1000000000000)(s ts:Str)(a:List Tm)(tl:List Ty)(l:List Zg)(n g:Int)(e:List Int)(ih:∀ x∈l,GIH f grp locals base bk x):GIH f grp locals base bk (.mk 7 s a (.mk ts tl) l n g e):=by
 obtain ⟨k,hk⟩:∃ k:Int,k=7:=⟨_,rfl⟩
 rw [← hk]
 intro A sn r σ gk gr hsn
 refine Zj.ok (by kernel_rfl) (fun hok=>?_)
 have hlen:=(((hok _ (List.mem_cons_of_mem _ List.mem_cons_self)).agg (c:=.list .none 9 (cN l)) (by simp [cp])).len)
 rw [cg] at hlen
 clear hok
 have hp:=UN k
 have hn:=Wl s
 rw [Yr]
 simp only [cp]
 obtain ⟨bL,fL⟩:∃ b,decide ((l.length:Int)=VR k)=b:=⟨_,rfl⟩
 obtain ⟨bN,fN⟩:∃ b,YP 1 s=b:=⟨_,rfl⟩
 obtain ⟨bS,fS⟩:∃ b,decide (s=ZS)=b:=⟨_,rfl⟩
 obtain ⟨bA,fA⟩:∃ b,decide (0<(a.length:Int))=b:=⟨_,rfl⟩
 obtain ⟨bn,fn⟩:∃ b,decide (n=0)=b:=⟨_,rfl⟩
 obtain ⟨bs,fs⟩:∃ b,decide (ts=ZS)=b:=⟨_,rfl⟩
 obtain ⟨bl,fl⟩:∃ b,decide (0<(tl.length:Int))=b:=⟨_,rfl⟩
 obtain ⟨bg,fg⟩:∃ b,decide (g=0)=b:=⟨_,rfl⟩
 obtain ⟨be,fe⟩:∃ b,decide (0<(e.length:Int))=b:=⟨_,rfl⟩
 have fA2:decide (a.length=0)=!bA:=by rw [← fA,← decide_not];exact decide_eq_decide.2 (by omega)
 have fl2:decide (tl.length=0)=!bl:=by rw [← fl,← decide_not];exact decide_eq_decide.2 (by omega)
 have fe2:decide (e.length=0)=!be:=by rw [← fe,← decide_not];exact decide_eq_decide.2 (by omega)
 rw [fN] at hn
 have gk':=gk
 unfold ckO at gk'
 obtain ⟨o,ho⟩:∃ o,YF f grp locals base k (.mk ts tl) n g e A sn=o:=⟨_,rfl⟩
 rw [ho]
 have hfk:∀ {b:Nat},Zx σ b→b≠bk:=fun h e=>by have:=Zm h;rw [e,gk] at this;cases this
 have hfr:∀ {b:Nat},Zx σ b→b≠r:=fun h e=>by have:=Zm h;rw [e,gr] at this;cases this
 have hkr:bk≠r:=fun e=>by rw [e,gr] at gk;cases gk
 subst hk
 refine Zc [5] [(3,6,0),(8,39,0),(14,33,0)] Tryz.func166 rfl (by kernel_rfl) ?_;rw [Tryz.ntmps166,Tryz.results166]
 refine eP ?_
 intro b5 hb5
 refine fF ?_
 refine hp.head ?_
 refine dY ?_
 cases bL
 ·refine dY ?_
  rw [if_neg (by simp only [Z9,ZN,fL,fN,fS,fA2,fn,fs,fl2,fg,fe2];simp)]
  exact ed
 refine dY ?_
 cases bS
 ·refine dY ?_
  rw [if_neg (by simp only [Z9,ZN,fL,fN,fS,fA2,fn,fs,fl2,fg,fe2];simp)]
  exact ed
 refine dY ?_
 cases bA
 rotate_left
 ·refine dY ?_
  rw [if_neg (by simp only [Z9,ZN,fL,fN,fS,fA2,fn,fs,fl2,fg,fe2];simp)]
  exact ed
 refine dY ?_
 cases bn
 ·refine dY ?_
  rw [if_neg (by simp only [Z9,ZN,fL,fN,fS,fA2,fn,fs,fl2,fg,fe2];simp)]
  exact ed
 refine dY ?_
 cases bs
 ·refine dY ?_
  rw [if_neg (by simp only [Z9,ZN,fL,fN,fS,fA2,fn,fs,fl2,fg,fe2];simp)]
  exact ed
 refine dY ?_
 cases bl
 rotate_left
 ·refine dY ?_
  rw [if_neg (by simp only [Z9,ZN,fL,fN,fS,fA2,fn,fs,fl2,fg,fe2];simp)]
  exact ed
 refine dY ?_
 obtain ⟨bq,fq⟩:∃ b,decide (g≤grp)=b:=⟨_,rfl⟩
 refine ea ?_
 cases bq
 rotate_left
 ·refine ea ?_
  have hi:YS f grp g e A=false:=by
   have h:¬ grp<g:=by have:=of_decide_eq_true fq;omega
   simp only [YS,decide_eq_false h,Bool.false_and]
  have hst:o=none:=by rw [← ho];simp [YF,hi]
  refine ia ?_
  exact ed
 have hg0:grp<g:=by simpa using fq
 refine ea ?_
 refine ⟨fun h1=>⟨by omega,by omega,fun c hc=>?_⟩,fun h1=>?_⟩
 rotate_left
 ·have h2:f.groups[g.toNat]?=none:=List.getElem?_eq_none (by omega)
  refine ea ?_
  have hi:YS f grp g e A=false:=by simp only [YS,h2];simp
  have hst:o=none:=by rw [← ho];simp [YF,hi]
  refine ia ?_
  exact ed
 obtain ⟨u,h2,rfl⟩:=cT hc
 obtain ⟨bu,fu⟩:∃ b,decide ((e.length:Int)=u.env.length)=b:=⟨_,rfl⟩
 have fu2:decide (e.length=u.env.length)=bu:=by rw [← fu];exact decide_eq_decide.2 (by omega)
 try simp only [go_sem,seval,Zn,FGroup.emb,cj,List.length_map,fu,decide_not]
 cases bu
 ·refine ea ?_
  have hi:YS f grp g e A=false:=by simp only [YS,h2,fu2];simp
  have hst:o=none:=by rw [← ho];simp [YF,hi]
  refine ia ?_
  exact ed
 refine ea ?_
 have gb5:Store.get ((b5,AObj.cells [.val (.map (some r))])::σ) b5=some (.cells [.val (.map (some r))]):=Zi _ _ _
 have gbr:Store.get ((b5,AObj.cells [.val (.map (some r))])::σ) r=some (.map (ZM keI (Yf A)) A.length):=by rw [Za (hfr hb5),gr]
 refine (QC A r b5 e .none 1 (.inl rfl) _ gb5 gbr).only ?_
 obtain ⟨ba,fa⟩:∃ b,(e.any fun n=>!decide (n∈A))=b:=⟨_,rfl⟩
 rw [fa]
 cases ba
 rotate_left
 ·refine eP ?_
  have hst:o=none:=by
   have hi:YS f grp g e A=false:=by simp only [YS,fa];simp
   rw [← ho];simp [YF,hi]
  refine ia ?_
  exact ed
 refine eP ?_
 have hst:o=some (A,sn):=by
  have hi:YS f grp g e A=true:=by simp only [YS,fa,h2,fu2];simp [hg0];omega
  rw [← ho];simp [YF,hi]
 have hq:sn≤locals.length:=hsn
 rw [hst,if_pos (by simp only [Z9,ZN,fL,fN,fS,fA2,fn,fs,fl2,fg,fe2];simp [*])]
 simp only
 obtain ⟨q,hqe⟩:∃ q,q=sn:=⟨_,rfl⟩
 rw [← hqe] at hq gk ⊢
 obtain ⟨B,hBe⟩:∃ B,B=A:=⟨_,rfl⟩
 rw [← hBe] at gr ⊢
 obtain ⟨R,hRe⟩:∃ R,R=r:=⟨_,rfl⟩
 rw [← hRe] at gr hkr ⊢
 obtain ⟨T,hT⟩:∃ T:Store,T=(b5,.cells [.val (.map (some R))])::σ:=⟨_,rfl⟩
 have n5k:=hfk hb5
 have nRk:R≠bk:=Ne.symm hkr
 have hTb:∀ y,T.set bk y=(b5,.cells [.val (.map (some R))])::σ.set bk y:=fun y=>by rw [hT,Zk n5k]
 have gTR:T.get R=some (AObj.map (ZM keI (Yf B)) B.length):=by rw [hT,Za (by rw [hRe];exact hfr hb5)];exact gr
 have gT5:T.get b5=some (.cells [.val (.map (some R))]):=by rw [hT,Zi]
 have gTk:T.get bk=some (ckO f grp locals base q):=by rw [hT,Za n5k];exact gk
 have hTs:∀ y,Sub (σ.set bk y) (T.set bk y):=fun y=>by rw [hTb];exact (Sub.refl _).skip _
 rw [← hT]
 refine iJ ?_
 refine (VN B R a .none 4 (.inl rfl) T gTR).only ?_
 cases ha:a.all (XT B)
 ·refine eP ?_
  exact .mk (.refl _) (by have:=hTs (ckO f grp locals base q);rw [Zs gTk] at this;exact this) ⟨rfl,q,rfl⟩
 refine eP ?_
 refine Zv (mu:=[5]) (dr:=[(3,6,0),(8,39,0),(14,33,0)]) [6,10,207,208,209,210,211,212,213,214,215,216] (fun x:Nat×Nat=>[(207,vi x.1)]) (fun x=>T.set bk (ckO f grp locals base x.2)) (fun x=>x.1≤l.length∧x.2≤locals.length∧Z0 f grp locals base (l.take x.1) B q=some x.2) (fun x=>l.length-x.1) (0,q) (by kernel_rfl) ⟨by omega,hq,by simp [Z0]⟩ ⟨.refl _,trivial⟩ (by rw [Zs gTk];exact .refl _) ?_
 rintro ⟨i,s1⟩ ⟨i1,i2,i3⟩
 simp only at i1 i2 i3
 refine fF ?_
 refine ⟨fun h1=>⟨by omega,h1,fun c hc=>?_⟩,fun h1=>?_⟩
 ·rw [Int.toNat_natCast] at hc
  obtain ⟨x,hx,rfl⟩:=cQ hc
  have ihx:=ih x (List.mem_of_getElem? hx) B s1 R
  have hsp:=Ys hx
  have hgs:Z0 f grp locals base (l.take (i+1)) B q=Yr f grp locals base x B s1:=by
   rw [List.take_add_one,hx,Option.toList_some,YJ,i3]
   simp only [Option.bind_some,Z0]
   cases Yr f grp locals base x B s1<;>rfl
  generalize Yr f grp locals base x B s1=gx at ihx hgs
  obtain ⟨k',s',a',⟨ts',tl'⟩,l',n',g',e'⟩:=x
  simp only [cp] at ihx
  refine iS ?_
  intro b10 hb10
  have n10k:b10≠bk:=fun e=>by have:=Zm hb10;rw [e,Zd gTk] at this;cases this
  have n10R:b10≠R:=fun e=>by have:=Zm hb10;rw [e,Zb nRk,gTR] at this;cases this
  have n105:b10≠b5:=fun e=>by have:=Zm hb10;rw [e,Zb n5k,gT5] at this;cases this
  refine fZ ?_
  refine (ihx _ (by rw [Za n10k,Zd gTk]) (by rw [Za n10R,Zb nRk,gTR]) i2).mono ?_
  rintro w S' hw
  cases gx with
  | none =>
    obtain ⟨hw1,s2,hw2⟩:=hw
    rw [hw1,hw2,Zk n10k,Zw]
    refine eP ?_
    have hn:Z0 f grp locals base l B q=none:=by
     have:=List.take_append_drop (i+1) l
     rw [← this,YJ,hgs];rfl
    rw [hn]
    exact fp
  | some s2 =>
    obtain ⟨hw1,hw2,hw3⟩:=hw
    rw [hw1,hw2,Zk n10k,Zw]
    refine eP ?_
    rw [show IntKind.i64.wrap ((i:Int)+1)=((i+1:Nat):Int) from Zp (by omega) (by omega)]
    exact .mk (i+1,s2) ⟨by omega,hw3,hgs⟩ (by simp only;omega) ⟨.refl _,trivial⟩ (by repeat first | exact Zf.turn _ rfl | refine Zf.put rfl ?_) ((Sub.refl _).skip _)
 ·have hil:l.take i=l:=List.take_of_length_le (by omega)
  rw [hil] at i3
  rw [i3]
  exact fI
theorem F5 (f:Flat)(grp:Int)(locals:List Ty)(base:Int)(bk:Nat)(hbase:0≤base∧base≤1000000000000)(hgrp:0≤grp)(hloc:locals.length≤1000000000000)(s ts:Str)(a:List Tm)(tl:List Ty)(l:List Zg)(n g:Int)(e:List Int)(ih:∀ x∈l,GIH f grp locals base bk x):GIH f grp locals base bk (.mk 8 s a (.mk ts tl) l n g e):=by
 obtain ⟨k,hk⟩:∃ k:Int,k=8:=⟨_,rfl⟩
 rw [← hk]
 intro A sn r σ gk gr hsn
 refine Zj.ok (by kernel_rfl) (fun hok=>?_)
 have hlen:=(((hok _ (List.mem_cons_of_mem _ List.mem_cons_self)).agg (c:=.list .none 9 (cN l)) (by simp [cp])).len)
 rw [cg] at hlen
 clear hok
 have hp:=UN k
 have hn:=Wl s
 rw [Yr]
 simp only [cp]
 obtain ⟨bL,fL⟩:∃ b,decide ((l.length:Int)=VR k)=b:=⟨_,rfl⟩
 obtain ⟨bN,fN⟩:∃ b,YP 1 s=b:=⟨_,rfl⟩
 obtain ⟨bS,fS⟩:∃ b,decide (s=ZS)=b:=⟨_,rfl⟩
 obtain ⟨bA,fA⟩:∃ b,decide (0<(a.length:Int))=b:=⟨_,rfl⟩
 obtain ⟨bn,fn⟩:∃ b,decide (n=0)=b:=⟨_,rfl⟩
 obtain ⟨bs,fs⟩:∃ b,decide (ts=ZS)=b:=⟨_,rfl⟩
 obtain ⟨bl,fl⟩:∃ b,decide (0<(tl.length:Int))=b:=⟨_,rfl⟩
 obtain ⟨bg,fg⟩:∃ b,decide (g=0)=b:=⟨_,rfl⟩
 obtain ⟨be,fe⟩:∃ b,decide (0<(e.length:Int))=b:=⟨_,rfl⟩
 have fA2:decide (a.length=0)=!bA:=by rw [← fA,← decide_not];exact decide_eq_decide.2 (by omega)
 have fl2:decide (tl.length=0)=!bl:=by rw [← fl,← decide_not];exact decide_eq_decide.2 (by omega)
 have fe2:decide (e.length=0)=!be:=by rw [← fe,← decide_not];exact decide_eq_decide.2 (by omega)
 rw [fN] at hn
 have gk':=gk
 unfold ckO at gk'
 obtain ⟨o,ho⟩:∃ o,YF f grp locals base k (.mk ts tl) n g e A sn=o:=⟨_,rfl⟩
 rw [ho]
 have hfk:∀ {b:Nat},Zx σ b→b≠bk:=fun h e=>by have:=Zm h;rw [e,gk] at this;cases this
 have hfr:∀ {b:Nat},Zx σ b→b≠r:=fun h e=>by have:=Zm h;rw [e,gr] at this;cases this
 have hkr:bk≠r:=fun e=>by rw [e,gr] at gk;cases gk
 subst hk
 refine Zc [5] [(3,6,0),(8,39,0),(14,33,0)] Tryz.func166 rfl (by kernel_rfl) ?_;rw [Tryz.ntmps166,Tryz.results166]
 refine eP ?_
 intro b5 hb5
 refine fF ?_
 refine hp.head ?_
 refine dY ?_
 cases bL
 ·refine dY ?_
  rw [if_neg (by simp only [Z9,ZN,fL,fN,fS,fA2,fn,fs,fl2,fg,fe2];simp)]
  exact ed
 refine dY ?_
 cases bS
 ·refine dY ?_
  rw [if_neg (by simp only [Z9,ZN,fL,fN,fS,fA2,fn,fs,fl2,fg,fe2];simp)]
  exact ed
 refine dY ?_
 cases bA
 rotate_left
 ·refine dY ?_
  rw [if_neg (by simp only [Z9,ZN,fL,fN,fS,fA2,fn,fs,fl2,fg,fe2];simp)]
  exact ed
 refine dY ?_
 cases bn
 ·refine dY ?_
  rw [if_neg (by simp only [Z9,ZN,fL,fN,fS,fA2,fn,fs,fl2,fg,fe2];simp)]
  exact ed
 refine dY ?_
 cases bs
 ·refine dY ?_
  rw [if_neg (by simp only [Z9,ZN,fL,fN,fS,fA2,fn,fs,fl2,fg,fe2];simp)]
  exact ed
 refine dY ?_
 cases bl
 rotate_left
 ·refine dY ?_
  rw [if_neg (by simp only [Z9,ZN,fL,fN,fS,fA2,fn,fs,fl2,fg,fe2];simp)]
  exact ed
 refine dY ?_
 obtain ⟨bq,fq⟩:∃ b,decide (g≤grp)=b:=⟨_,rfl⟩
 refine ea ?_
 cases bq
 rotate_left
 ·refine ea ?_
  have hi:YS f grp g e A=false:=by
   have h:¬ grp<g:=by have:=of_decide_eq_true fq;omega
   simp only [YS,decide_eq_false h,Bool.false_and]
  have hst:o=none:=by rw [← ho];simp [YF,hi]
  refine ia ?_
  exact ed
 have hg0:grp<g:=by simpa using fq
 refine ea ?_
 refine ⟨fun h1=>⟨by omega,by omega,fun c hc=>?_⟩,fun h1=>?_⟩
 rotate_left
 ·have h2:f.groups[g.toNat]?=none:=List.getElem?_eq_none (by omega)
  refine ea ?_
  have hi:YS f grp g e A=false:=by simp only [YS,h2];simp
  have hst:o=none:=by rw [← ho];simp [YF,hi]
  refine ia ?_
  exact ed
 obtain ⟨u,h2,rfl⟩:=cT hc
 obtain ⟨bu,fu⟩:∃ b,decide ((e.length:Int)=u.env.length)=b:=⟨_,rfl⟩
 have fu2:decide (e.length=u.env.length)=bu:=by rw [← fu];exact decide_eq_decide.2 (by omega)
 try simp only [go_sem,seval,Zn,FGroup.emb,cj,List.length_map,fu,decide_not]
 cases bu
 ·refine ea ?_
  have hi:YS f grp g e A=false:=by simp only [YS,h2,fu2];simp
  have hst:o=none:=by rw [← ho];simp [YF,hi]
  refine ia ?_
  exact ed
 refine ea ?_
 have gb5:Store.get ((b5,AObj.cells [.val (.map (some r))])::σ) b5=some (.cells [.val (.map (some r))]):=Zi _ _ _
 have gbr:Store.get ((b5,AObj.cells [.val (.map (some r))])::σ) r=some (.map (ZM keI (Yf A)) A.length):=by rw [Za (hfr hb5),gr]
 refine (QC A r b5 e .none 1 (.inl rfl) _ gb5 gbr).only ?_
 obtain ⟨ba,fa⟩:∃ b,(e.any fun n=>!decide (n∈A))=b:=⟨_,rfl⟩
 rw [fa]
 cases ba
 rotate_left
 ·refine eP ?_
  have hst:o=none:=by
   have hi:YS f grp g e A=false:=by simp only [YS,fa];simp
   rw [← ho];simp [YF,hi]
  refine ia ?_
  exact ed
 refine eP ?_
 have hst:o=some (A,sn):=by
  have hi:YS f grp g e A=true:=by simp only [YS,fa,h2,fu2];simp [hg0];omega
  rw [← ho];simp [YF,hi]
 have hq:sn≤locals.length:=hsn
 rw [hst,if_pos (by simp only [Z9,ZN,fL,fN,fS,fA2,fn,fs,fl2,fg,fe2];simp [*])]
 simp only
 obtain ⟨q,hqe⟩:∃ q,q=sn:=⟨_,rfl⟩
 rw [← hqe] at hq gk ⊢
 obtain ⟨B,hBe⟩:∃ B,B=A:=⟨_,rfl⟩
 rw [← hBe] at gr ⊢
 obtain ⟨R,hRe⟩:∃ R,R=r:=⟨_,rfl⟩
 rw [← hRe] at gr hkr ⊢
 obtain ⟨T,hT⟩:∃ T:Store,T=(b5,.cells [.val (.map (some R))])::σ:=⟨_,rfl⟩
 have n5k:=hfk hb5
 have nRk:R≠bk:=Ne.symm hkr
 have hTb:∀ y,T.set bk y=(b5,.cells [.val (.map (some R))])::σ.set bk y:=fun y=>by rw [hT,Zk n5k]
 have gTR:T.get R=some (AObj.map (ZM keI (Yf B)) B.length):=by rw [hT,Za (by rw [hRe];exact hfr hb5)];exact gr
 have gT5:T.get b5=some (.cells [.val (.map (some R))]):=by rw [hT,Zi]
 have gTk:T.get bk=some (ckO f grp locals base q):=by rw [hT,Za n5k];exact gk
 have hTs:∀ y,Sub (σ.set bk y) (T.set bk y):=fun y=>by rw [hTb];exact (Sub.refl _).skip _
 rw [← hT]
 refine iJ ?_
 refine (VN B R a .none 4 (.inl rfl) T gTR).only ?_
 cases ha:a.all (XT B)
 ·refine eP ?_
  exact .mk (.refl _) (by have:=hTs (ckO f grp locals base q);rw [Zs gTk] at this;exact this) ⟨rfl,q,rfl⟩
 refine eP ?_
 refine Zv (mu:=[5]) (dr:=[(3,6,0),(8,39,0),(14,33,0)]) [6,10,207,208,209,210,211,212,213,214,215,216] (fun x:Nat×Nat=>[(207,vi x.1)]) (fun x=>T.set bk (ckO f grp locals base x.2)) (fun x=>x.1≤l.length∧x.2≤locals.length∧Z0 f grp locals base (l.take x.1) B q=some x.2) (fun x=>l.length-x.1) (0,q) (by kernel_rfl) ⟨by omega,hq,by simp [Z0]⟩ ⟨.refl _,trivial⟩ (by rw [Zs gTk];exact .refl _) ?_
 rintro ⟨i,s1⟩ ⟨i1,i2,i3⟩
 simp only at i1 i2 i3
 refine fF ?_
 refine ⟨fun h1=>⟨by omega,h1,fun c hc=>?_⟩,fun h1=>?_⟩
 ·rw [Int.toNat_natCast] at hc
  obtain ⟨x,hx,rfl⟩:=cQ hc
  have ihx:=ih x (List.mem_of_getElem? hx) B s1 R
  have hsp:=Ys hx
  have hgs:Z0 f grp locals base (l.take (i+1)) B q=Yr f grp locals base x B s1:=by
   rw [List.take_add_one,hx,Option.toList_some,YJ,i3]
   simp only [Option.bind_some,Z0]
   cases Yr f grp locals base x B s1<;>rfl
  generalize Yr f grp locals base x B s1=gx at ihx hgs
  obtain ⟨k',s',a',⟨ts',tl'⟩,l',n',g',e'⟩:=x
  simp only [cp] at ihx
  refine iS ?_
  intro b10 hb10
  have n10k:b10≠bk:=fun e=>by have:=Zm hb10;rw [e,Zd gTk] at this;cases this
  have n10R:b10≠R:=fun e=>by have:=Zm hb10;rw [e,Zb nRk,gTR] at this;cases this
  have n105:b10≠b5:=fun e=>by have:=Zm hb10;rw [e,Zb n5k,gT5] at this;cases this
  refine fZ ?_
  refine (ihx _ (by rw [Za n10k,Zd gTk]) (by rw [Za n10R,Zb nRk,gTR]) i2).mono ?_
  rintro w S' hw
  cases gx with
  | none =>
    obtain ⟨hw1,s2,hw2⟩:=hw
    rw [hw1,hw2,Zk n10k,Zw]
    refine eP ?_
    have hn:Z0 f grp locals base l B q=none:=by
     have:=List.take_append_drop (i+1) l
     rw [← this,YJ,hgs];rfl
    rw [hn]
    exact fp
  | some s2 =>
    obtain ⟨hw1,hw2,hw3⟩:=hw
    rw [hw1,hw2,Zk n10k,Zw]
    refine eP ?_
    rw [show IntKind.i64.wrap ((i:Int)+1)=((i+1:Nat):Int) from Zp (by omega) (by omega)]
    exact .mk (i+1,s2) ⟨by omega,hw3,hgs⟩ (by simp only;omega) ⟨.refl _,trivial⟩ (by repeat first | exact Zf.turn _ rfl | refine Zf.put rfl ?_) ((Sub.refl _).skip _)
 ·have hil:l.take i=l:=List.take_of_length_le (by omega)
  rw [hil] at i3
  rw [i3]
  exact fI
theorem Cy (f:Flat)(grp:Int)(locals:List Ty)(base:Int)(bk:Nat)(hbase:0≤base∧base≤1000000000000)(hgrp:0≤grp)(hloc:locals.length≤1000000000000)(s ts:Str)(a:List Tm)(tl:List Ty)(l:List Zg)(n g:Int)(e:List Int)(ih:∀ x∈l,GIH f grp locals base bk x)(k:Int)(h1:k≠1)(h10:k≠10)(h11:k≠11)(h7:k≠7)(h8:k≠8):GIH f grp locals base bk (.mk k s a (.mk ts tl) l n g e):=by
 have k1:(k=1)=False:=eq_false h1
 have k10:(k=10)=False:=eq_false h10
 have k11:(k=11)=False:=eq_false h11
 have k7:(k=7)=False:=eq_false h7
 have k8:(k=8)=False:=eq_false h8
 intro A sn r σ gk gr hsn
 refine Zj.ok (by kernel_rfl) (fun hok=>?_)
 have hlen:=(((hok _ (List.mem_cons_of_mem _ List.mem_cons_self)).agg (c:=.list .none 9 (cN l)) (by simp [cp])).len)
 rw [cg] at hlen
 clear hok
 have hp:=UN k
 have hn:=Wl s
 rw [Yr]
 simp only [cp]
 obtain ⟨bL,fL⟩:∃ b,decide ((l.length:Int)=VR k)=b:=⟨_,rfl⟩
 obtain ⟨bN,fN⟩:∃ b,YP 1 s=b:=⟨_,rfl⟩
 obtain ⟨bS,fS⟩:∃ b,decide (s=ZS)=b:=⟨_,rfl⟩
 obtain ⟨bA,fA⟩:∃ b,decide (0<(a.length:Int))=b:=⟨_,rfl⟩
 obtain ⟨bn,fn⟩:∃ b,decide (n=0)=b:=⟨_,rfl⟩
 obtain ⟨bs,fs⟩:∃ b,decide (ts=ZS)=b:=⟨_,rfl⟩
 obtain ⟨bl,fl⟩:∃ b,decide (0<(tl.length:Int))=b:=⟨_,rfl⟩
 obtain ⟨bg,fg⟩:∃ b,decide (g=0)=b:=⟨_,rfl⟩
 obtain ⟨be,fe⟩:∃ b,decide (0<(e.length:Int))=b:=⟨_,rfl⟩
 have fA2:decide (a.length=0)=!bA:=by rw [← fA,← decide_not];exact decide_eq_decide.2 (by omega)
 have fl2:decide (tl.length=0)=!bl:=by rw [← fl,← decide_not];exact decide_eq_decide.2 (by omega)
 have fe2:decide (e.length=0)=!be:=by rw [← fe,← decide_not];exact decide_eq_decide.2 (by omega)
 rw [fN] at hn
 have gk':=gk
 unfold ckO at gk'
 obtain ⟨o,ho⟩:∃ o,YF f grp locals base k (.mk ts tl) n g e A sn=o:=⟨_,rfl⟩
 rw [ho]
 have hfk:∀ {b:Nat},Zx σ b→b≠bk:=fun h e=>by have:=Zm h;rw [e,gk] at this;cases this
 have hfr:∀ {b:Nat},Zx σ b→b≠r:=fun h e=>by have:=Zm h;rw [e,gr] at this;cases this
 have hkr:bk≠r:=fun e=>by rw [e,gr] at gk;cases gk
 refine Zc [5] [(3,6,0),(8,39,0),(14,33,0)] Tryz.func166 rfl (by kernel_rfl) ?_;rw [Tryz.ntmps166,Tryz.results166]
 try simp only [go_sem,seval,Zn,k1,k7,k8,k10,k11,decide_false]
 intro b5 hb5
 try simp only [go_sem,seval,Zn,cg,k1,k7,k8,k10,k11,decide_false]
 refine hp.head ?_
 refine ej ?_
 cases bL
 ·refine ej ?_
  rw [if_neg (by simp only [Z9,ZN,k1,k7,k8,k10,k11,fL,fN,fS,fA2,fn,fs,fl2,fg,fe2];simp)]
  exact ed
 refine ej ?_
 cases bS
 ·refine ej ?_
  rw [if_neg (by simp only [Z9,ZN,k1,k7,k8,k10,k11,fL,fN,fS,fA2,fn,fs,fl2,fg,fe2];simp)]
  exact ed
 refine ej ?_
 cases bA
 rotate_left
 ·refine ej ?_
  rw [if_neg (by simp only [Z9,ZN,k1,k7,k8,k10,k11,fL,fN,fS,fA2,fn,fs,fl2,fg,fe2];simp)]
  exact ed
 refine ej ?_
 cases bn
 ·refine ej ?_
  rw [if_neg (by simp only [Z9,ZN,k1,k7,k8,k10,k11,fL,fN,fS,fA2,fn,fs,fl2,fg,fe2];simp)]
  exact ed
 refine ej ?_
 cases bs
 ·refine ej ?_
  rw [if_neg (by simp only [Z9,ZN,k1,k7,k8,k10,k11,fL,fN,fS,fA2,fn,fs,fl2,fg,fe2];simp)]
  exact ed
 refine ej ?_
 cases bl
 rotate_left
 ·refine ej ?_
  rw [if_neg (by simp only [Z9,ZN,k1,k7,k8,k10,k11,fL,fN,fS,fA2,fn,fs,fl2,fg,fe2];simp)]
  exact ed
 refine ej ?_
 cases bg
 ·refine ej ?_
  rw [if_neg (by simp only [Z9,ZN,k1,k7,k8,k10,k11,fL,fN,fS,fA2,fn,fs,fl2,fg,fe2];simp)]
  exact ed
 refine ej ?_
 cases be
 rotate_left
 ·refine ej ?_
  rw [if_neg (by simp only [Z9,ZN,k1,k7,k8,k10,k11,fL,fN,fS,fA2,fn,fs,fl2,fg,fe2];simp)]
  exact ed
 refine ej ?_
 refine ej ?_
 have hst:o=some (A,sn):=by rw [← ho];simp [YF, *]
 have hq:sn≤locals.length:=hsn
 rw [hst,if_pos (by simp only [Z9,ZN,fL,fN,fS,fA2,fn,fs,fl2,fg,fe2];simp [*])]
 simp only
 obtain ⟨q,hqe⟩:∃ q,q=sn:=⟨_,rfl⟩
 rw [← hqe] at hq gk ⊢
 obtain ⟨B,hBe⟩:∃ B,B=A:=⟨_,rfl⟩
 rw [← hBe] at gr ⊢
 obtain ⟨R,hRe⟩:∃ R,R=r:=⟨_,rfl⟩
 rw [← hRe] at gr hkr ⊢
 obtain ⟨T,hT⟩:∃ T:Store,T=(b5,.cells [.val (.map (some R))])::σ:=⟨_,rfl⟩
 have n5k:=hfk hb5
 have nRk:R≠bk:=Ne.symm hkr
 have hTb:∀ y,T.set bk y=(b5,.cells [.val (.map (some R))])::σ.set bk y:=fun y=>by rw [hT,Zk n5k]
 have gTR:T.get R=some (AObj.map (ZM keI (Yf B)) B.length):=by rw [hT,Za (by rw [hRe];exact hfr hb5)];exact gr
 have gT5:T.get b5=some (.cells [.val (.map (some R))]):=by rw [hT,Zi]
 have gTk:T.get bk=some (ckO f grp locals base q):=by rw [hT,Za n5k];exact gk
 have hTs:∀ y,Sub (σ.set bk y) (T.set bk y):=fun y=>by rw [hTb];exact (Sub.refl _).skip _
 rw [← hT]
 refine iJ ?_
 refine (VN B R a .none 4 (.inl rfl) T gTR).only ?_
 cases ha:a.all (XT B)
 ·refine eP ?_
  exact .mk (.refl _) (by have:=hTs (ckO f grp locals base q);rw [Zs gTk] at this;exact this) ⟨rfl,q,rfl⟩
 refine eP ?_
 refine Zv (mu:=[5]) (dr:=[(3,6,0),(8,39,0),(14,33,0)]) [6,10,207,208,209,210,211,212,213,214,215,216] (fun x:Nat×Nat=>[(207,vi x.1)]) (fun x=>T.set bk (ckO f grp locals base x.2)) (fun x=>x.1≤l.length∧x.2≤locals.length∧Z0 f grp locals base (l.take x.1) B q=some x.2) (fun x=>l.length-x.1) (0,q) (by kernel_rfl) ⟨by omega,hq,by simp [Z0]⟩ ⟨.refl _,trivial⟩ (by rw [Zs gTk];exact .refl _) ?_
 rintro ⟨i,s1⟩ ⟨i1,i2,i3⟩
 simp only at i1 i2 i3
 refine fF ?_
 refine ⟨fun h1=>⟨by omega,h1,fun c hc=>?_⟩,fun h1=>?_⟩
 ·rw [Int.toNat_natCast] at hc
  obtain ⟨x,hx,rfl⟩:=cQ hc
  have ihx:=ih x (List.mem_of_getElem? hx) B s1 R
  have hsp:=Ys hx
  have hgs:Z0 f grp locals base (l.take (i+1)) B q=Yr f grp locals base x B s1:=by
   rw [List.take_add_one,hx,Option.toList_some,YJ,i3]
   simp only [Option.bind_some,Z0]
   cases Yr f grp locals base x B s1<;>rfl
  generalize Yr f grp locals base x B s1=gx at ihx hgs
  obtain ⟨k',s',a',⟨ts',tl'⟩,l',n',g',e'⟩:=x
  simp only [cp] at ihx
  refine iS ?_
  intro b10 hb10
  have n10k:b10≠bk:=fun e=>by have:=Zm hb10;rw [e,Zd gTk] at this;cases this
  have n10R:b10≠R:=fun e=>by have:=Zm hb10;rw [e,Zb nRk,gTR] at this;cases this
  have n105:b10≠b5:=fun e=>by have:=Zm hb10;rw [e,Zb n5k,gT5] at this;cases this
  refine fZ ?_
  refine (ihx _ (by rw [Za n10k,Zd gTk]) (by rw [Za n10R,Zb nRk,gTR]) i2).mono ?_
  rintro w S' hw
  cases gx with
  | none =>
    obtain ⟨hw1,s2,hw2⟩:=hw
    rw [hw1,hw2,Zk n10k,Zw]
    refine eP ?_
    have hn:Z0 f grp locals base l B q=none:=by
     have:=List.take_append_drop (i+1) l
     rw [← this,YJ,hgs];rfl
    rw [hn]
    exact fp
  | some s2 =>
    obtain ⟨hw1,hw2,hw3⟩:=hw
    rw [hw1,hw2,Zk n10k,Zw]
    refine eP ?_
    rw [show IntKind.i64.wrap ((i:Int)+1)=((i+1:Nat):Int) from Zp (by omega) (by omega)]
    exact .mk (i+1,s2) ⟨by omega,hw3,hgs⟩ (by simp only;omega) ⟨.refl _,trivial⟩ (by repeat first | exact Zf.turn _ rfl | refine Zf.put rfl ?_) ((Sub.refl _).skip _)
 ·have hil:l.take i=l:=List.take_of_length_le (by omega)
  rw [hil] at i3
  rw [i3]
  exact fI
theorem F4 (f:Flat)(grp:Int)(locals:List Ty)(base:Int)(bk:Nat)(hbase:0≤base∧base≤1000000000000)(hgrp:0≤grp)(hloc:locals.length≤1000000000000)(x:Zg):GIH f grp locals base bk x:=by
 induction x using dB with | h k s a t l n g e ih=>?_
 obtain ⟨ts,tl⟩:=t
 have hk:k=1∨k=10∨k=11∨k=7∨k=8∨(k≠1∧k≠10∧k≠11∧k≠7∧k≠8):=by omega
 rcases hk with rfl | rfl | rfl | rfl | rfl | ⟨k1,k10,k11,k7,k8⟩
 ·exact Cz f grp locals base bk hbase hgrp hloc s ts a tl l n g e ih
 ·exact Hc f grp locals base bk hbase hgrp hloc s ts a tl l n g e ih
 ·exact Hb f grp locals base bk hbase hgrp hloc s ts a tl l n g e ih
 ·exact F6 f grp locals base bk hbase hgrp hloc s ts a tl l n g e ih
 ·exact F5 f grp locals base bk hbase hgrp hloc s ts a tl l n g e ih
 ·exact Cy f grp locals base bk hbase hgrp hloc s ts a tl l n g e ih k k1 k10 k11 k7 k8
end Go.Vx
