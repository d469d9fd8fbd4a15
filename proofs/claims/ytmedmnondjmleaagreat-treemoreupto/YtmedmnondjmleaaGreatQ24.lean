/- Part Q24 of the proof of treeMoreProved: the walk of the program on abstract values, and the plain law. -/
import Derived.Test.YtmedmnondjmleaaGreatQ22
import Derived.Test.YtmedmnondjmleaaGreatQ23
set_option linter.unusedVariables false
set_option linter.unusedSimpArgs false
set_option maxRecDepth 100000
namespace Go.Vx
open Go.Proofs
theorem Zn:(ZE Tryz.prog 152 0=some 0)∧(Zh Tryz.prog 3=some 1)∧(Ze Tryz.prog 3=some false)∧(ZE Tryz.prog 152 4=some 5)∧(Zh Tryz.prog 130=some 1)∧(Ze Tryz.prog 130=some false)∧(ZE Tryz.prog 152 1=some 1)∧(Zh Tryz.prog 9=some 1)∧(Ze Tryz.prog 9=some false)∧(ZE Tryz.prog 152 2=some 2)∧(Zh Tryz.prog 33=some 1)∧(Ze Tryz.prog 33=some false)∧(ZE Tryz.prog 152 5=some 6)∧(ZE Tryz.prog 152 3=some 3)∧(ZE Tryz.prog 150 0=some 0)∧(ZE Tryz.prog 150 1=some 1)∧(Zh Tryz.prog 126=some 1)∧(Ze Tryz.prog 126=some false)∧(ZE Tryz.prog 152 6=some 7)∧(ZE Tryz.prog 152 7=some 8)∧(Zh Tryz.prog 23=some 1)∧(Ze Tryz.prog 23=some false)∧(ZE Tryz.prog 229 3=some 4)∧(ZE Tryz.prog 229 4=some 5)∧(ZE Tryz.prog 229 2=some 3)∧(Zh Tryz.prog 150=some 2)∧(Ze Tryz.prog 150=some true)∧(ZB Tryz.prog 126=some 150)∧(Zl Tryz.prog 150=some (.agg #[(.string ⟨#[]⟩),(.slice none 0 0)]))∧(Zh Tryz.prog 226=some 1)∧(Ze Tryz.prog 226=some false)∧(ZE Tryz.prog 229 1=some 2)∧(ZE Tryz.prog 229 0=some 0)∧(ZE Tryz.prog 25 0=some 0)∧(Zh Tryz.prog 22=some 1)∧(Ze Tryz.prog 22=some false)∧(ZB Tryz.prog 22=some 129)∧(Zh Tryz.prog 129=some 2)∧(ZE Tryz.prog 129 0=some 0)∧(ZB Tryz.prog 130=some 152)∧(Zh Tryz.prog 152=some 9)∧(Ze Tryz.prog 152=some true)∧(Zl Tryz.prog 152=some (.agg #[(.int .i64 0),(.string ⟨#[]⟩),(.slice none 0 0),(.string ⟨#[]⟩),(.slice none 0 0),(.slice none 0 0),(.int .i64 0),(.int .i64 0),(.slice none 0 0)]))∧(Tryz.prog.underlying 130=some (.slice 152))∧(Tryz.prog.underlying 33=some (.slice 52))∧(Tryz.prog.underlying 126=some (.slice 150))∧(Tryz.prog.underlying 23=some (.slice 3))∧(Tryz.prog.underlying 22=some (.slice 129)):=by
 refine ⟨?_,?_,?_,?_,?_,?_,?_,?_,?_,?_,?_,?_,?_,?_,?_,?_,?_,?_,?_,?_,?_,?_,?_,?_,?_,?_,?_,?_,?_,?_,?_,?_,?_,?_,?_,?_,?_,?_,?_,?_,?_,?_,?_,?_,?_,?_,?_,?_⟩<;>first | trivial | kernel_rfl
theorem Wm (s:Str):Pur Tryz.prog 165 [vs s] (vb (YO 1 s)):=by
 intro σ
 have h:Pur Tryz.prog 213 [vs s,vi 1] (vb (YO 1 s)):=by
  intro σ
  refine Zb [] [] Tryz.func213 rfl (by kernel_rfl) ?_;rw [Tryz.ntmps213,Tryz.results213]
  try simp only [go_sem,seval,Jk]
  refine (JT 1 0 s).use ?_
  try simp only [go_sem,seval,Jk]
  refine Zz ?_
  cases YO 1 s<;>simp
 refine Zb [] [] Tryz.func165 rfl (by kernel_rfl) ?_;rw [Tryz.ntmps165,Tryz.results165]
 try simp only [go_sem,seval,Jn]
 refine h.use ?_
 try simp only [go_sem,seval,Jn]
 exact Zv
def V2 (k:Int):Int:=if k=1∨k=2∨k=3 then 0 else if k=4∨k=5∨k=6 then 2 else if k=9∨k=12∨k=10∨k=11∨k=7∨k=8 then 1 else -1
theorem UV (k:Int):Pur Tryz.prog 214 [vi k] (vi (V2 k)):=by
 intro σ
 refine Zb [] [] Tryz.func214 rfl (by kernel_rfl) ?_;rw [Tryz.ntmps214,Tryz.results214]
 try simp only [go_sem,seval,aG]
 repeat first | exact WH (by simp_all [V2]) | refine ⟨fun _=>?_,fun _=>?_⟩
def Ye (k:Int)(s:Str)(la:Nat)(ts:Str)(tl:Nat)(ll:Nat)(n g:Int)(le:Nat):Bool :=
 decide ((ll:Int)=V2 k)&&(if k=1 then ZO s else decide (s=emptyS)&&decide (la=0)) &&
 (if k=10∨k=11 then true else decide (n=0)&&decide (ts=emptyS)&&decide (tl=0))&&(if k=7∨k=8 then true else decide (g=0)&&decide (le=0))
def W0 (locals:List Ty)(base:Int)(t:Ty)(n:Int)(sn:Nat):Bool :=
 decide (n=base+sn)&&(match locals[sn]? with | some u=>Yf t&&(Yf t&&Yf u&&SH t u) | none=>false)
def YQ (f:Flat)(grp:Int)(g:Int)(e:List Int)(A:List Int):Bool :=
 decide (grp<g)&&(decide (0≤g)&&match f.groups[g.toNat]? with | some u=>decide (e.length=u.env.length) | none=>false)&&!(e.any fun n=>!decide (n∈A))
def YC (f:Flat)(grp:Int)(locals:List Ty)(base:Int)(k:Int)(t:Ty)(n g:Int)(e:List Int)(A:List Int)(sn:Nat):Option (List Int×Nat) :=
 if k=10∨k=11 then (if W0 locals base t n sn then some (n::A,sn+1) else none)
 else if k=7∨k=8 then (if YQ f grp g e A then some (A,sn) else none)
 else some (A,sn)
mutual
def Z7 (f:Flat)(grp:Int)(locals:List Ty)(base:Int):Zf→List Int→Nat→Option Nat
 | .mk k s a t l n g e,A,sn =>
   if Ye k s a.length (match t with | .mk ts _=>ts) (match t with | .mk _ tl=>tl.length) l.length n g e.length then
    match YC f grp locals base k t n g e A sn with
    | some q=>if a.all (XO q.1) then ZX f grp locals base l q.1 q.2 else none
    | none=>none
   else none
def ZX (f:Flat)(grp:Int)(locals:List Ty)(base:Int):List Zf→List Int→Nat→Option Nat
 | [],_,sn=>some sn
 | x::r,A,sn=>match Z7 f grp locals base x A sn with
   | some s=>ZX f grp locals base r A s
   | none=>none
end
theorem Uw {A B:List Int}(h:∀ x,x∈A↔x∈B):XO A=XO B:=by
 funext t
 simp only [XO,h]
theorem N3 {f:Flat}{grp:Int}{locals:List Ty}{base k:Int}{t:Ty}{n g:Int}{e:List Int}{A B:List Int}{sn:Nat}(h:∀ x,x∈A↔x∈B) :
 (YC f grp locals base k t n g e A sn=none∧YC f grp locals base k t n g e B sn=none)∨∃ A' B' s,YC f grp locals base k t n g e A sn=some (A',s)∧YC f grp locals base k t n g e B sn=some (B',s)∧∀ x,x∈A'↔x∈B':=by
 have hi:YQ f grp g e A=YQ f grp g e B:=by simp only [YQ,h]
 unfold YC
 rw [hi]
 split
 ·split
  ·exact .inr ⟨_,_,_,rfl,rfl,by simp [h]⟩
  ·exact .inl ⟨rfl,rfl⟩
 ·split
  ·split
   ·exact .inr ⟨_,_,_,rfl,rfl,h⟩
   ·exact .inl ⟨rfl,rfl⟩
  ·exact .inr ⟨_,_,_,rfl,rfl,h⟩
mutual
theorem ME (f:Flat)(grp:Int)(locals:List Ty)(base:Int):∀ (x:Zf) (A B:List Int) (sn:Nat),(∀ y,y∈A↔y∈B)→Z7 f grp locals base x A sn=Z7 f grp locals base x B sn
 | .mk k s a t l n g e,A,B,sn,h=>by
   simp only [Z7]
   rcases N3 (f:=f) (grp:=grp) (locals:=locals) (base:=base) (k:=k) (t:=t) (n:=n) (g:=g) (e:=e) (sn:=sn) h with ⟨h1,h2⟩ | ⟨A',B',s',h1,h2,h3⟩
   ·rw [h1,h2]
   ·rw [h1,h2];simp only;rw [Uw h3,WM f grp locals base l A' B' s' h3]
theorem WM (f:Flat)(grp:Int)(locals:List Ty)(base:Int):∀ (x:List Zf) (A B:List Int) (sn:Nat),(∀ y,y∈A↔y∈B)→ZX f grp locals base x A sn=ZX f grp locals base x B sn
 | [],A,B,sn,h=>rfl
 | x::r,A,B,sn,h=>by
   simp only [ZX]
   rw [ME f grp locals base x A B sn h]
   cases Z7 f grp locals base x B sn with
   | none=>rfl
   | some s=>exact WM f grp locals base r A B s h
end
theorem YL (f:Flat)(grp:Int)(locals:List Ty)(base:Int)(l m:List Zf)(A:List Int)(sn:Nat):ZX f grp locals base (l++m) A sn=(ZX f grp locals base l A sn).bind (ZX f grp locals base m A):=by
 induction l generalizing sn with
 | nil=>rfl
 | cons x r ih =>
   simp only [List.cons_append,ZX]
   cases Z7 f grp locals base x A sn with
   | none=>rfl
   | some s=>exact ih s
def ckO (f:Flat)(grp:Int)(locals:List Ty)(base:Int)(sn:Nat):AObj:=.cells [.list .none 2 (cF f.groups),.list .none 1 (Yw f.rules),vi grp,.list .none 2 (cC locals),vi (base+sn),vi sn]
theorem Zs {σ:Store}{b:Nat}{x:AObj}(h:σ.get b=some x):σ.set b x=σ:=by
 induction σ with
 | nil=>rfl
 | cons p r ih =>
   obtain ⟨c,y⟩:=p
   by_cases e:c=b
   ·subst e;rw [Zj] at h;injection h with h;rw [h,Yj]
   ·rw [Za e] at h;rw [Zk e,ih h]
def bH (f:Flat)(grp:Int)(locals:List Ty)(base:Int)(bk:Nat)(σ:Store)(o:Option Nat):ZQ→Store→Prop:=fun x S'=>match o with
 | some sn'=>x=.ret (vb true)∧S'=σ.set bk (ckO f grp locals base sn')∧sn'≤locals.length
 | none=>x=.ret (vb false)∧∃ sn',S'=σ.set bk (ckO f grp locals base sn')
def GIH (f:Flat)(grp:Int)(locals:List Ty)(base:Int)(bk:Nat)(x:Zf):Prop:=∀ (A:List Int) (sn r:Nat) (σ:Store),
    σ.get bk=some (ckO f grp locals base sn)→σ.get r=some (.map (ZR keI (Ym A)) A.length)→sn≤locals.length →
    Zi Tryz.prog 166 [.val (.pointer (some ⟨bk,0,none⟩)),.agg x.emb,.val (.map (some r))] σ (bH f grp locals base bk σ (Z7 f grp locals base x A sn))
theorem Cn (f:Flat)(grp:Int)(locals:List Ty)(base:Int)(bk:Nat)(hbase:0≤base∧base≤1000000000000)(hgrp:0≤grp)(hloc:locals.length≤1000000000000)(s ts:Str)(a:List Tm)(tl:List Ty)(l:List Zf)(n g:Int)(e:List Int)(ih:∀ x∈l,GIH f grp locals base bk x):GIH f grp locals base bk (.mk 1 s a (.mk ts tl) l n g e):=by
 obtain ⟨k,hk⟩:∃ k:Int,k=1:=⟨_,rfl⟩
 rw [← hk]
 intro A sn r σ gk gr hsn
 refine Zi.ok (by kernel_rfl) (fun hok=>?_)
 have hlen:=(((hok _ (List.mem_cons_of_mem _ List.mem_cons_self)).agg (c:=.list .none 9 (cE l)) (by simp [ci])).len)
 rw [bW] at hlen
 clear hok
 have hp:=UV k
 have hn:=Wm s
 rw [Z7]
 simp only [ci]
 obtain ⟨bL,fL⟩:∃ b,decide ((l.length:Int)=V2 k)=b:=⟨_,rfl⟩
 obtain ⟨bN,fN⟩:∃ b,YO 1 s=b:=⟨_,rfl⟩
 obtain ⟨bS,fS⟩:∃ b,decide (s=emptyS)=b:=⟨_,rfl⟩
 obtain ⟨bA,fA⟩:∃ b,decide (0<(a.length:Int))=b:=⟨_,rfl⟩
 obtain ⟨bn,fn⟩:∃ b,decide (n=0)=b:=⟨_,rfl⟩
 obtain ⟨bs,fs⟩:∃ b,decide (ts=emptyS)=b:=⟨_,rfl⟩
 obtain ⟨bl,fl⟩:∃ b,decide (0<(tl.length:Int))=b:=⟨_,rfl⟩
 obtain ⟨bg,fg⟩:∃ b,decide (g=0)=b:=⟨_,rfl⟩
 obtain ⟨be,fe⟩:∃ b,decide (0<(e.length:Int))=b:=⟨_,rfl⟩
 have fA2:decide (a.length=0)=!bA:=by rw [← fA,← decide_not];exact decide_eq_decide.2 (by omega)
 have fl2:decide (tl.length=0)=!bl:=by rw [← fl,← decide_not];exact decide_eq_decide.2 (by omega)
 have fe2:decide (e.length=0)=!be:=by rw [← fe,← decide_not];exact decide_eq_decide.2 (by omega)
 rw [fN] at hn
 have gk':=gk
 unfold ckO at gk'
 obtain ⟨o,ho⟩:∃ o,YC f grp locals base k (.mk ts tl) n g e A sn=o:=⟨_,rfl⟩
 rw [ho]
 have hfk:∀ {b:Nat},Zx σ b→b≠bk:=fun h e=>by have:=Zm h;rw [e,gk] at this;cases this
 have hfr:∀ {b:Nat},Zx σ b→b≠r:=fun h e=>by have:=Zm h;rw [e,gr] at this;cases this
 have hkr:bk≠r:=fun e=>by rw [e,gr] at gk;cases gk
 subst hk
 refine Zb [5] [(3,6,0),(8,39,0),(14,33,0)] Tryz.func166 rfl (by kernel_rfl) ?_;rw [Tryz.ntmps166,Tryz.results166]
 refine eK ?_
 intro b5 hb5
 refine fF ?_
 refine hp.head ?_
 refine dT ?_
 cases bL
 ·refine dT ?_
  rw [if_neg (by simp only [Ye,ZO,fL,fN,fS,fA2,fn,fs,fl2,fg,fe2];simp)]
  exact dX
 refine dT ?_
 refine hn.use ?_
 cases bN
 ·refine dT ?_
  rw [if_neg (by simp only [Ye,ZO,fL,fN,fS,fA2,fn,fs,fl2,fg,fe2];simp)]
  exact dX
 cases bn
 ·refine dT ?_
  rw [if_neg (by simp only [Ye,ZO,fL,fN,fS,fA2,fn,fs,fl2,fg,fe2];simp)]
  exact dX
 refine dT ?_
 cases bs
 ·refine dT ?_
  rw [if_neg (by simp only [Ye,ZO,fL,fN,fS,fA2,fn,fs,fl2,fg,fe2];simp)]
  exact dX
 refine dT ?_
 cases bl
 rotate_left
 ·refine dT ?_
  rw [if_neg (by simp only [Ye,ZO,fL,fN,fS,fA2,fn,fs,fl2,fg,fe2];simp)]
  exact dX
 refine dT ?_
 cases bg
 ·refine dT ?_
  rw [if_neg (by simp only [Ye,ZO,fL,fN,fS,fA2,fn,fs,fl2,fg,fe2];simp)]
  exact dX
 refine dT ?_
 cases be
 rotate_left
 ·refine dT ?_
  rw [if_neg (by simp only [Ye,ZO,fL,fN,fS,fA2,fn,fs,fl2,fg,fe2];simp)]
  exact dX
 refine dT ?_
 refine dT ?_
 have hst:o=some (A,sn):=by rw [← ho];simp [YC]
 have hq:sn≤locals.length:=hsn
 rw [hst,if_pos (by simp only [Ye,ZO,fL,fN,fS,fA2,fn,fs,fl2,fg,fe2];simp [*])]
 simp only
 obtain ⟨q,hqe⟩:∃ q,q=sn:=⟨_,rfl⟩
 rw [← hqe] at hq gk ⊢
 obtain ⟨B,hBe⟩:∃ B,B=A:=⟨_,rfl⟩
 rw [← hBe] at gr ⊢
 obtain ⟨R,hRe⟩:∃ R,R=r:=⟨_,rfl⟩
 rw [← hRe] at gr hkr ⊢
 obtain ⟨T,hT⟩:∃ T:Store,T=(b5,.cells [.val (.map (some R))])::σ:=⟨_,rfl⟩
 have n5k:=hfk hb5
 have nRk:R≠bk:=Ne.symm hkr
 have hTb:∀ y,T.set bk y=(b5,.cells [.val (.map (some R))])::σ.set bk y:=fun y=>by rw [hT,Zk n5k]
 have gTR:T.get R=some (AObj.map (ZR keI (Ym B)) B.length):=by rw [hT,Za (by rw [hRe];exact hfr hb5)];exact gr
 have gT5:T.get b5=some (.cells [.val (.map (some R))]):=by rw [hT,Zj]
 have gTk:T.get bk=some (ckO f grp locals base q):=by rw [hT,Za n5k];exact gk
 have hTs:∀ y,Sub (σ.set bk y) (T.set bk y):=fun y=>by rw [hTb];exact (Sub.refl _).skip _
 rw [← hT]
 refine iB ?_
 refine (VV B R a .none 4 (.inl rfl) T gTR).only ?_
 cases ha:a.all (XO B)
 ·refine eK ?_
  exact .mk (.refl _) (by have:=hTs (ckO f grp locals base q);rw [Zs gTk] at this;exact this) ⟨rfl,q,rfl⟩
 refine eK ?_
 refine Zw (mu:=[5]) (dr:=[(3,6,0),(8,39,0),(14,33,0)]) [6,10,207,208,209,210,211,212,213,214,215,216] (fun x:Nat×Nat=>[(207,vi x.1)]) (fun x=>T.set bk (ckO f grp locals base x.2)) (fun x=>x.1≤l.length∧x.2≤locals.length∧ZX f grp locals base (l.take x.1) B q=some x.2) (fun x=>l.length-x.1) (0,q) (by kernel_rfl) ⟨by omega,hq,by simp [ZX]⟩ ⟨.refl _,trivial⟩ (by rw [Zs gTk];exact .refl _) ?_
 rintro ⟨i,s1⟩ ⟨i1,i2,i3⟩
 simp only at i1 i2 i3
 refine fF ?_
 refine ⟨fun h1=>⟨by omega,h1,fun c hc=>?_⟩,fun h1=>?_⟩
 ·rw [Int.toNat_natCast] at hc
  obtain ⟨x,hx,rfl⟩:=cN hc
  have ihx:=ih x (List.mem_of_getElem? hx) B s1 R
  have hsp:=Yz hx
  have hgs:ZX f grp locals base (l.take (i+1)) B q=Z7 f grp locals base x B s1:=by
   rw [List.take_add_one,hx,Option.toList_some,YL,i3]
   simp only [Option.bind_some,ZX]
   cases Z7 f grp locals base x B s1<;>rfl
  generalize Z7 f grp locals base x B s1=gx at ihx hgs
  obtain ⟨k',s',a',⟨ts',tl'⟩,l',n',g',e'⟩:=x
  simp only [ci] at ihx
  refine iL ?_
  intro b10 hb10
  have n10k:b10≠bk:=fun e=>by have:=Zm hb10;rw [e,Zd gTk] at this;cases this
  have n10R:b10≠R:=fun e=>by have:=Zm hb10;rw [e,Zc nRk,gTR] at this;cases this
  have n105:b10≠b5:=fun e=>by have:=Zm hb10;rw [e,Zc n5k,gT5] at this;cases this
  refine fX ?_
  refine (ihx _ (by rw [Za n10k,Zd gTk]) (by rw [Za n10R,Zc nRk,gTR]) i2).mono ?_
  rintro w S' hw
  cases gx with
  | none =>
    obtain ⟨hw1,s2,hw2⟩:=hw
    rw [hw1,hw2,Zk n10k,Zu]
    refine eK ?_
    have hn:ZX f grp locals base l B q=none:=by
     have:=List.take_append_drop (i+1) l
     rw [← this,YL,hgs];rfl
    rw [hn]
    exact fp
  | some s2 =>
    obtain ⟨hw1,hw2,hw3⟩:=hw
    rw [hw1,hw2,Zk n10k,Zu]
    refine eK ?_
    rw [show IntKind.i64.wrap ((i:Int)+1)=((i+1:Nat):Int) from Zp (by omega) (by omega)]
    exact .mk (i+1,s2) ⟨by omega,hw3,hgs⟩ (by simp only;omega) ⟨.refl _,trivial⟩ (by repeat first | exact Zg.turn _ rfl | refine Zg.put rfl ?_) ((Sub.refl _).skip _)
 ·have hil:l.take i=l:=List.take_of_length_le (by omega)
  rw [hil] at i3
  rw [i3]
  exact fI
theorem Hc (f:Flat)(grp:Int)(locals:List Ty)(base:Int)(bk:Nat)(hbase:0≤base∧base≤1000000000000)(hgrp:0≤grp)(hloc:locals.length≤1000000000000)(s ts:Str)(a:List Tm)(tl:List Ty)(l:List Zf)(n g:Int)(e:List Int)(ih:∀ x∈l,GIH f grp locals base bk x):GIH f grp locals base bk (.mk 10 s a (.mk ts tl) l n g e):=by
 obtain ⟨k,hk⟩:∃ k:Int,k=10:=⟨_,rfl⟩
 rw [← hk]
 intro A sn r σ gk gr hsn
 refine Zi.ok (by kernel_rfl) (fun hok=>?_)
 have hlen:=(((hok _ (List.mem_cons_of_mem _ List.mem_cons_self)).agg (c:=.list .none 9 (cE l)) (by simp [ci])).len)
 rw [bW] at hlen
 clear hok
 have hp:=UV k
 have hn:=Wm s
 rw [Z7]
 simp only [ci]
 obtain ⟨bL,fL⟩:∃ b,decide ((l.length:Int)=V2 k)=b:=⟨_,rfl⟩
 obtain ⟨bN,fN⟩:∃ b,YO 1 s=b:=⟨_,rfl⟩
 obtain ⟨bS,fS⟩:∃ b,decide (s=emptyS)=b:=⟨_,rfl⟩
 obtain ⟨bA,fA⟩:∃ b,decide (0<(a.length:Int))=b:=⟨_,rfl⟩
 obtain ⟨bn,fn⟩:∃ b,decide (n=0)=b:=⟨_,rfl⟩
 obtain ⟨bs,fs⟩:∃ b,decide (ts=emptyS)=b:=⟨_,rfl⟩
 obtain ⟨bl,fl⟩:∃ b,decide (0<(tl.length:Int))=b:=⟨_,rfl⟩
 obtain ⟨bg,fg⟩:∃ b,decide (g=0)=b:=⟨_,rfl⟩
 obtain ⟨be,fe⟩:∃ b,decide (0<(e.length:Int))=b:=⟨_,rfl⟩
 have fA2:decide (a.length=0)=!bA:=by rw [← fA,← decide_not];exact decide_eq_decide.2 (by omega)
 have fl2:decide (tl.length=0)=!bl:=by rw [← fl,← decide_not];exact decide_eq_decide.2 (by omega)
 have fe2:decide (e.length=0)=!be:=by rw [← fe,← decide_not];exact decide_eq_decide.2 (by omega)
 rw [fN] at hn
 have gk':=gk
 unfold ckO at gk'
 obtain ⟨o,ho⟩:∃ o,YC f grp locals base k (.mk ts tl) n g e A sn=o:=⟨_,rfl⟩
 rw [ho]
 have hfk:∀ {b:Nat},Zx σ b→b≠bk:=fun h e=>by have:=Zm h;rw [e,gk] at this;cases this
 have hfr:∀ {b:Nat},Zx σ b→b≠r:=fun h e=>by have:=Zm h;rw [e,gr] at this;cases this
 have hkr:bk≠r:=fun e=>by rw [e,gr] at gk;cases gk
 subst hk
 refine Zb [5] [(3,6,0),(8,39,0),(14,33,0)] Tryz.func166 rfl (by kernel_rfl) ?_;rw [Tryz.ntmps166,Tryz.results166]
 refine eK ?_
 intro b5 hb5
 refine fF ?_
 refine hp.head ?_
 refine dT ?_
 cases bL
 ·refine dT ?_
  rw [if_neg (by simp only [Ye,ZO,fL,fN,fS,fA2,fn,fs,fl2,fg,fe2];simp)]
  exact dX
 refine dT ?_
 cases bS
 ·refine dT ?_
  rw [if_neg (by simp only [Ye,ZO,fL,fN,fS,fA2,fn,fs,fl2,fg,fe2];simp)]
  exact dX
 refine dT ?_
 cases bA
 rotate_left
 ·refine dT ?_
  rw [if_neg (by simp only [Ye,ZO,fL,fN,fS,fA2,fn,fs,fl2,fg,fe2];simp)]
  exact dX
 refine dT ?_
 cases bg
 ·refine dT ?_
  rw [if_neg (by simp only [Ye,ZO,fL,fN,fS,fA2,fn,fs,fl2,fg,fe2];simp)]
  exact dX
 refine dT ?_
 cases be
 rotate_left
 ·refine dT ?_
  rw [if_neg (by simp only [Ye,ZO,fL,fN,fS,fA2,fn,fs,fl2,fg,fe2];simp)]
  exact dX
 refine dT ?_
 obtain ⟨bq,fq⟩:∃ b,decide (n=base+(sn:Int))=b:=⟨_,rfl⟩
 refine dV ?_
 cases bq
 ·refine dV ?_
  have hst:o=none:=by clear ih;rw [← ho];clear ho;simp [YC,W0,YQ, *]
  refine gY ?_
  exact dX
 refine dV ?_
 refine ⟨fun h1=>⟨by simp [apZ],?_⟩,fun h1=>?_⟩
 rotate_left
 ·have h2:locals[sn]?=none:=List.getElem?_eq_none (by omega)
  refine dV ?_
  have hst:o=none:=by clear ih;rw [← ho];clear ho;simp [YC,W0,YQ, *]
  refine gY ?_
  exact dX
 have h2:locals[sn]?=some locals[sn]:=List.getElem?_eq_getElem (by omega)
 generalize locals[sn]=u at h2
 refine (VP [.mk ts tl] .full 2 (.inl rfl)).head ?_
 obtain ⟨bf,ff⟩:∃ b,Yf (.mk ts tl)=b:=⟨_,rfl⟩
 simp only [List.all_cons,List.all_nil,Bool.and_true,ff]
 cases bf
 ·refine dV ?_
  have hst:o=none:=by clear ih;rw [← ho];clear ho;simp [YC,W0,YQ, *]
  refine gY ?_
  exact dX
 refine dV ?_
 refine ⟨by omega,by omega,fun c hc=>?_⟩
 rw [Int.toNat_natCast] at hc
 obtain ⟨u',hu,rfl⟩:=cT hc
 obtain rfl:u=u':=by rw [h2] at hu;injection hu
 have hsame:=Qd (.mk ts tl) u
 rw [ff,Bool.true_and] at hsame
 obtain ⟨bu,fu⟩:∃ b,(Yf u&&SH (.mk ts tl) u)=b:=⟨_,rfl⟩
 rw [fu] at hsame
 obtain ⟨us,ul⟩:=u
 simp only [cB] at hsame ⊢
 refine dV ?_
 refine hsame.use ?_
 cases bu
 ·refine dV ?_
  have hst:o=none:=by clear ih;rw [← ho];clear ho;simp [YC,W0,YQ, *]
  refine gY ?_
  exact dX
 refine dV ?_
 have hw1:IntKind.i64.wrap (base+(sn:Int)+1)=base+((sn+1:Nat):Int):=by rw [Zp (by omega) (by omega)];omega
 have hw2:IntKind.i64.wrap ((sn:Int)+1)=((sn+1:Nat):Int):=Zp (by omega) (by omega)
 rw [hw1,hw2]
 have hck:AObj.cells [.list .none 2 (cF f.groups),.list .none 1 (Yw f.rules),vi grp,.list .none 2 (cC locals),vi (base+((sn+1:Nat):Int)),vi ((sn+1:Nat):Int)]=ckO f grp locals base (sn+1):=rfl
 rw [hck]
 refine (HZ _ r A n (by rw [Za (hfr hb5),Zc (Ne.symm hkr)];exact gr)).mono ?_
 rintro w S' ⟨R,B,hw,fr',hS',hB⟩
 rw [hw,hS']
 try simp only [go_sem,seval,Zn,Zk (Ne.symm fr'.1),Za (Ne.symm fr'.1)]
 have hst:o=some (n::A,sn+1):=by clear ih;rw [← ho];clear ho;simp [YC,W0, *]
 have hq:sn+1≤locals.length:=by omega
 obtain ⟨q,hqe⟩:∃ q,q=sn+1:=⟨_,rfl⟩
 rw [← hqe] at hq hst ⊢
 rw [hst,if_pos (by simp only [Ye,ZO,fL,fN,fS,fA2,fn,fs,fl2,fg,fe2];simp)]
 simp only
 have hBc:∀ y,y∈n::A↔y∈B:=fun y=>by rw [hB];simp
 rw [Uw hBc,WM f grp locals base l _ _ q hBc]
 obtain ⟨T,hT⟩:∃ T:Store,T=(R,AObj.map (ZR keI (Ym B)) B.length)::(b5,.cells [.val (.map (some R))])::σ.set bk (ckO f grp locals base q):=⟨_,rfl⟩
 have n5k:=hfk hb5
 have nRk:R≠bk:=fun e=>by have:=Zm fr'.2;rw [e,Zd gk] at this;cases this
 have hTb:∀ y,T.set bk y=(R,AObj.map (ZR keI (Ym B)) B.length)::(b5,.cells [.val (.map (some R))])::σ.set bk y:=fun y=>by rw [hT,Zk nRk,Zk n5k,Zu]
 have gTR:T.get R=some (AObj.map (ZR keI (Ym B)) B.length):=by rw [hT,Zj]
 have gT5:T.get b5=some (.cells [.val (.map (some R))]):=by rw [hT,Za (Ne.symm fr'.1),Zj]
 have gTk:T.get bk=some (ckO f grp locals base q):=by rw [hT,Za nRk,Za n5k,Zd gk]
 have hTs:∀ y,Sub (σ.set bk y) (T.set bk y):=fun y=>by rw [hTb];exact ((Sub.refl _).skip _).skip _
 rw [← hT]
 refine iB ?_
 refine (VV B R a .none 4 (.inl rfl) T gTR).only ?_
 cases ha:a.all (XO B)
 ·refine eK ?_
  exact .mk (.refl _) (by have:=hTs (ckO f grp locals base q);rw [Zs gTk] at this;exact this) ⟨rfl,q,rfl⟩
 refine eK ?_
 refine Zw (mu:=[5]) (dr:=[(3,6,0),(8,39,0),(14,33,0)]) [6,10,207,208,209,210,211,212,213,214,215,216] (fun x:Nat×Nat=>[(207,vi x.1)]) (fun x=>T.set bk (ckO f grp locals base x.2)) (fun x=>x.1≤l.length∧x.2≤locals.length∧ZX f grp locals base (l.take x.1) B q=some x.2) (fun x=>l.length-x.1) (0,q) (by kernel_rfl) ⟨by omega,hq,by simp [ZX]⟩ ⟨.refl _,trivial⟩ (by rw [Zs gTk];exact .refl _) ?_
 rintro ⟨i,s1⟩ ⟨i1,i2,i3⟩
 simp only at i1 i2 i3
 refine fF ?_
 refine ⟨fun h1=>⟨by omega,h1,fun c hc=>?_⟩,fun h1=>?_⟩
 ·rw [Int.toNat_natCast] at hc
  obtain ⟨x,hx,rfl⟩:=cN hc
  have ihx:=ih x (List.mem_of_getElem? hx) B s1 R
  have hsp:=Yz hx
  have hgs:ZX f grp locals base (l.take (i+1)) B q=Z7 f grp locals base x B s1:=by
   rw [List.take_add_one,hx,Option.toList_some,YL,i3]
   simp only [Option.bind_some,ZX]
   cases Z7 f grp locals base x B s1<;>rfl
  generalize Z7 f grp locals base x B s1=gx at ihx hgs
  obtain ⟨k',s',a',⟨ts',tl'⟩,l',n',g',e'⟩:=x
  simp only [ci] at ihx
  refine iL ?_
  intro b10 hb10
  have n10k:b10≠bk:=fun e=>by have:=Zm hb10;rw [e,Zd gTk] at this;cases this
  have n10R:b10≠R:=fun e=>by have:=Zm hb10;rw [e,Zc nRk,gTR] at this;cases this
  have n105:b10≠b5:=fun e=>by have:=Zm hb10;rw [e,Zc n5k,gT5] at this;cases this
  refine fX ?_
  refine (ihx _ (by rw [Za n10k,Zd gTk]) (by rw [Za n10R,Zc nRk,gTR]) i2).mono ?_
  rintro w S' hw
  cases gx with
  | none =>
    obtain ⟨hw1,s2,hw2⟩:=hw
    rw [hw1,hw2,Zk n10k,Zu]
    refine eK ?_
    have hn:ZX f grp locals base l B q=none:=by
     have:=List.take_append_drop (i+1) l
     rw [← this,YL,hgs];rfl
    rw [hn]
    exact fp
  | some s2 =>
    obtain ⟨hw1,hw2,hw3⟩:=hw
    rw [hw1,hw2,Zk n10k,Zu]
    refine eK ?_
    rw [show IntKind.i64.wrap ((i:Int)+1)=((i+1:Nat):Int) from Zp (by omega) (by omega)]
    exact .mk (i+1,s2) ⟨by omega,hw3,hgs⟩ (by simp only;omega) ⟨.refl _,trivial⟩ (by repeat first | exact Zg.turn _ rfl | refine Zg.put rfl ?_) ((Sub.refl _).skip _)
 ·have hil:l.take i=l:=List.take_of_length_le (by omega)
  rw [hil] at i3
  rw [i3]
  exact fI
theorem Hb (f:Flat)(grp:Int)(locals:List Ty)(base:Int)(bk:Nat)(hbase:0≤base∧base≤1000000000000)(hgrp:0≤grp)(hloc:locals.length≤1000000000000)(s ts:Str)(a:List Tm)(tl:List Ty)(l:List Zf)(n g:Int)(e:List Int)(ih:∀ x∈l,GIH f grp locals base bk x):GIH f grp locals base bk (.mk 11 s a (.mk ts tl) l n g e):=by
 obtain ⟨k,hk⟩:∃ k:Int,k=11:=⟨_,rfl⟩
 rw [← hk]
 intro A sn r σ gk gr hsn
 refine Zi.ok (by kernel_rfl) (fun hok=>?_)
 have hlen:=(((hok _ (List.mem_cons_of_mem _ List.mem_cons_self)).agg (c:=.list .none 9 (cE l)) (by simp [ci])).len)
 rw [bW] at hlen
 clear hok
 have hp:=UV k
 have hn:=Wm s
 rw [Z7]
 simp only [ci]
 obtain ⟨bL,fL⟩:∃ b,decide ((l.length:Int)=V2 k)=b:=⟨_,rfl⟩
 obtain ⟨bN,fN⟩:∃ b,YO 1 s=b:=⟨_,rfl⟩
 obtain ⟨bS,fS⟩:∃ b,decide (s=emptyS)=b:=⟨_,rfl⟩
 obtain ⟨bA,fA⟩:∃ b,decide (0<(a.length:Int))=b:=⟨_,rfl⟩
 obtain ⟨bn,fn⟩:∃ b,decide (n=0)=b:=⟨_,rfl⟩
 obtain ⟨bs,fs⟩:∃ b,decide (ts=emptyS)=b:=⟨_,rfl⟩
 obtain ⟨bl,fl⟩:∃ b,decide (0<(tl.length:Int))=b:=⟨_,rfl⟩
 obtain ⟨bg,fg⟩:∃ b,decide (g=0)=b:=⟨_,rfl⟩
 obtain ⟨be,fe⟩:∃ b,decide (0<(e.length:Int))=b:=⟨_,rfl⟩
 have fA2:decide (a.length=0)=!bA:=by rw [← fA,← decide_not];exact decide_eq_decide.2 (by omega)
 have fl2:decide (tl.length=0)=!bl:=by rw [← fl,← decide_not];exact decide_eq_decide.2 (by omega)
 have fe2:decide (e.length=0)=!be:=by rw [← fe,← decide_not];exact decide_eq_decide.2 (by omega)
 rw [fN] at hn
 have gk':=gk
 unfold ckO at gk'
 obtain ⟨o,ho⟩:∃ o,YC f grp locals base k (.mk ts tl) n g e A sn=o:=⟨_,rfl⟩
 rw [ho]
 have hfk:∀ {b:Nat},Zx σ b→b≠bk:=fun h e=>by have:=Zm h;rw [e,gk] at this;cases this
 have hfr:∀ {b:Nat},Zx σ b→b≠r:=fun h e=>by have:=Zm h;rw [e,gr] at this;cases this
 have hkr:bk≠r:=fun e=>by rw [e,gr] at gk;cases gk
 subst hk
 refine Zb [5] [(3,6,0),(8,39,0),(14,33,0)] Tryz.func166 rfl (by kernel_rfl) ?_;rw [Tryz.ntmps166,Tryz.results166]
 refine eK ?_
 intro b5 hb5
 refine fF ?_
 refine hp.head ?_
 refine dT ?_
 cases bL
 ·refine dT ?_
  rw [if_neg (by simp only [Ye,ZO,fL,fN,fS,fA2,fn,fs,fl2,fg,fe2];simp)]
  exact dX
 refine dT ?_
 cases bS
 ·refine dT ?_
  rw [if_neg (by simp only [Ye,ZO,fL,fN,fS,fA2,fn,fs,fl2,fg,fe2];simp)]
  exact dX
 refine dT ?_
 cases bA
 rotate_left
 ·refine dT ?_
  rw [if_neg (by simp only [Ye,ZO,fL,fN,fS,fA2,fn,fs,fl2,fg,fe2];simp)]
  exact dX
 refine dT ?_
 cases bg
 ·refine dT ?_
  rw [if_neg (by simp only [Ye,ZO,fL,fN,fS,fA2,fn,fs,fl2,fg,fe2];simp)]
  exact dX
 refine dT ?_
 cases be
 rotate_left
 ·refine dT ?_
  rw [if_neg (by simp only [Ye,ZO,fL,fN,fS,fA2,fn,fs,fl2,fg,fe2];simp)]
  exact dX
 refine dT ?_
 obtain ⟨bq,fq⟩:∃ b,decide (n=base+(sn:Int))=b:=⟨_,rfl⟩
 refine dV ?_
 cases bq
 ·refine dV ?_
  have hst:o=none:=by clear ih;rw [← ho];clear ho;simp [YC,W0,YQ, *]
  refine gY ?_
  exact dX
 refine dV ?_
 refine ⟨fun h1=>⟨by simp [apZ],?_⟩,fun h1=>?_⟩
 rotate_left
 ·have h2:locals[sn]?=none:=List.getElem?_eq_none (by omega)
  refine dV ?_
  have hst:o=none:=by clear ih;rw [← ho];clear ho;simp [YC,W0,YQ, *]
  refine gY ?_
  exact dX
 have h2:locals[sn]?=some locals[sn]:=List.getElem?_eq_getElem (by omega)
 generalize locals[sn]=u at h2
 refine (VP [.mk ts tl] .full 2 (.inl rfl)).head ?_
 obtain ⟨bf,ff⟩:∃ b,Yf (.mk ts tl)=b:=⟨_,rfl⟩
 simp only [List.all_cons,List.all_nil,Bool.and_true,ff]
 cases bf
 ·refine dV ?_
  have hst:o=none:=by clear ih;rw [← ho];clear ho;simp [YC,W0,YQ, *]
  refine gY ?_
  exact dX
 refine dV ?_
 refine ⟨by omega,by omega,fun c hc=>?_⟩
 rw [Int.toNat_natCast] at hc
 obtain ⟨u',hu,rfl⟩:=cT hc
 obtain rfl:u=u':=by rw [h2] at hu;injection hu
 have hsame:=Qd (.mk ts tl) u
 rw [ff,Bool.true_and] at hsame
 obtain ⟨bu,fu⟩:∃ b,(Yf u&&SH (.mk ts tl) u)=b:=⟨_,rfl⟩
 rw [fu] at hsame
 obtain ⟨us,ul⟩:=u
 simp only [cB] at hsame ⊢
 refine dV ?_
 refine hsame.use ?_
 cases bu
 ·refine dV ?_
  have hst:o=none:=by clear ih;rw [← ho];clear ho;simp [YC,W0,YQ, *]
  refine gY ?_
  exact dX
 refine dV ?_
 have hw1:IntKind.i64.wrap (base+(sn:Int)+1)=base+((sn+1:Nat):Int):=by rw [Zp (by omega) (by omega)];omega
 have hw2:IntKind.i64.wrap ((sn:Int)+1)=((sn+1:Nat):Int):=Zp (by omega) (by omega)
 rw [hw1,hw2]
 have hck:AObj.cells [.list .none 2 (cF f.groups),.list .none 1 (Yw f.rules),vi grp,.list .none 2 (cC locals),vi (base+((sn+1:Nat):Int)),vi ((sn+1:Nat):Int)]=ckO f grp locals base (sn+1):=rfl
 rw [hck]
 refine (HZ _ r A n (by rw [Za (hfr hb5),Zc (Ne.symm hkr)];exact gr)).mono ?_
 rintro w S' ⟨R,B,hw,fr',hS',hB⟩
 rw [hw,hS']
 try simp only [go_sem,seval,Zn,Zk (Ne.symm fr'.1),Za (Ne.symm fr'.1)]
 have hst:o=some (n::A,sn+1):=by clear ih;rw [← ho];clear ho;simp [YC,W0, *]
 have hq:sn+1≤locals.length:=by omega
 obtain ⟨q,hqe⟩:∃ q,q=sn+1:=⟨_,rfl⟩
 rw [← hqe] at hq hst ⊢
 rw [hst,if_pos (by simp only [Ye,ZO,fL,fN,fS,fA2,fn,fs,fl2,fg,fe2];simp)]
 simp only
 have hBc:∀ y,y∈n::A↔y∈B:=fun y=>by rw [hB];simp
 rw [Uw hBc,WM f grp locals base l _ _ q hBc]
 obtain ⟨T,hT⟩:∃ T:Store,T=(R,AObj.map (ZR keI (Ym B)) B.length)::(b5,.cells [.val (.map (some R))])::σ.set bk (ckO f grp locals base q):=⟨_,rfl⟩
 have n5k:=hfk hb5
 have nRk:R≠bk:=fun e=>by have:=Zm fr'.2;rw [e,Zd gk] at this;cases this
 have hTb:∀ y,T.set bk y=(R,AObj.map (ZR keI (Ym B)) B.length)::(b5,.cells [.val (.map (some R))])::σ.set bk y:=fun y=>by rw [hT,Zk nRk,Zk n5k,Zu]
 have gTR:T.get R=some (AObj.map (ZR keI (Ym B)) B.length):=by rw [hT,Zj]
 have gT5:T.get b5=some (.cells [.val (.map (some R))]):=by rw [hT,Za (Ne.symm fr'.1),Zj]
 have gTk:T.get bk=some (ckO f grp locals base q):=by rw [hT,Za nRk,Za n5k,Zd gk]
 have hTs:∀ y,Sub (σ.set bk y) (T.set bk y):=fun y=>by rw [hTb];exact ((Sub.refl _).skip _).skip _
 rw [← hT]
 refine iB ?_
 refine (VV B R a .none 4 (.inl rfl) T gTR).only ?_
 cases ha:a.all (XO B)
 ·refine eK ?_
  exact .mk (.refl _) (by have:=hTs (ckO f grp locals base q);rw [Zs gTk] at this;exact this) ⟨rfl,q,rfl⟩
 refine eK ?_
 refine Zw (mu:=[5]) (dr:=[(3,6,0),(8,39,0),(14,33,0)]) [6,10,207,208,209,210,211,212,213,214,215,216] (fun x:Nat×Nat=>[(207,vi x.1)]) (fun x=>T.set bk (ckO f grp locals base x.2)) (fun x=>x.1≤l.length∧x.2≤locals.length∧ZX f grp locals base (l.take x.1) B q=some x.2) (fun x=>l.length-x.1) (0,q) (by kernel_rfl) ⟨by omega,hq,by simp [ZX]⟩ ⟨.refl _,trivial⟩ (by rw [Zs gTk];exact .refl _) ?_
 rintro ⟨i,s1⟩ ⟨i1,i2,i3⟩
 simp only at i1 i2 i3
 refine fF ?_
 refine ⟨fun h1=>⟨by omega,h1,fun c hc=>?_⟩,fun h1=>?_⟩
 ·rw [Int.toNat_natCast] at hc
  obtain ⟨x,hx,rfl⟩:=cN hc
  have ihx:=ih x (List.mem_of_getElem? hx) B s1 R
  have hsp:=Yz hx
  have hgs:ZX f grp locals base (l.take (i+1)) B q=Z7 f grp locals base x B s1:=by
   rw [List.take_add_one,hx,Option.toList_some,YL,i3]
   simp only [Option.bind_some,ZX]
   cases Z7 f grp locals base x B s1<;>rfl
  generalize Z7 f grp locals base x B s1=gx at ihx hgs
  obtain ⟨k',s',a',⟨ts',tl'⟩,l',n',g',e'⟩:=x
  simp only [ci] at ihx
  refine iL ?_
  intro b10 hb10
  have n10k:b10≠bk:=fun e=>by have:=Zm hb10;rw [e,Zd gTk] at this;cases this
  have n10R:b10≠R:=fun e=>by have:=Zm hb10;rw [e,Zc nRk,gTR] at this;cases this
  have n105:b10≠b5:=fun e=>by have:=Zm hb10;rw [e,Zc n5k,gT5] at this;cases this
  refine fX ?_
  refine (ihx _ (by rw [Za n10k,Zd gTk]) (by rw [Za n10R,Zc nRk,gTR]) i2).mono ?_
  rintro w S' hw
  cases gx with
  | none =>
    obtain ⟨hw1,s2,hw2⟩:=hw
    rw [hw1,hw2,Zk n10k,Zu]
    refine eK ?_
    have hn:ZX f grp locals base l B q=none:=by
     have:=List.take_append_drop (i+1) l
     rw [← this,YL,hgs];rfl
    rw [hn]
    exact fp
  | some s2 =>
    obtain ⟨hw1,hw2,hw3⟩:=hw
    rw [hw1,hw2,Zk n10k,Zu]
    refine eK ?_
    rw [show IntKind.i64.wrap ((i:Int)+1)=((i+1:Nat):Int) from Zp (by omega) (by omega)]
    exact .mk (i+1,s2) ⟨by omega,hw3,hgs⟩ (by simp only;omega) ⟨.refl _,trivial⟩ (by repeat first | exact Zg.turn _ rfl | refine Zg.put rfl ?_) ((Sub.refl _).skip _)
 ·have hil:l.take i=l:=List.take_of_length_le (by omega)
  rw [hil] at i3
  rw [i3]
  exact fI
theorem FU (f:Flat)(grp:Int)(locals:List Ty)(base:Int)(bk:Nat)(hbase:0≤base∧base≤1000000000000)(hgrp:0≤grp)(hloc:locals.length≤1000000000000)(s ts:Str)(a:List Tm)(tl:List Ty)(l:List Zf)(n g:Int)(e:List Int)(ih:∀ x∈l,GIH f grp locals base bk x):GIH f grp locals base bk (.mk 7 s a (.mk ts tl) l n g e):=by
 obtain ⟨k,hk⟩:∃ k:Int,k=7:=⟨_,rfl⟩
 rw [← hk]
 intro A sn r σ gk gr hsn
 refine Zi.ok (by kernel_rfl) (fun hok=>?_)
 have hlen:=(((hok _ (List.mem_cons_of_mem _ List.mem_cons_self)).agg (c:=.list .none 9 (cE l)) (by simp [ci])).len)
 rw [bW] at hlen
 clear hok
 have hp:=UV k
 have hn:=Wm s
 rw [Z7]
 simp only [ci]
 obtain ⟨bL,fL⟩:∃ b,decide ((l.length:Int)=V2 k)=b:=⟨_,rfl⟩
 obtain ⟨bN,fN⟩:∃ b,YO 1 s=b:=⟨_,rfl⟩
 obtain ⟨bS,fS⟩:∃ b,decide (s=emptyS)=b:=⟨_,rfl⟩
 obtain ⟨bA,fA⟩:∃ b,decide (0<(a.length:Int))=b:=⟨_,rfl⟩
 obtain ⟨bn,fn⟩:∃ b,decide (n=0)=b:=⟨_,rfl⟩
 obtain ⟨bs,fs⟩:∃ b,decide (ts=emptyS)=b:=⟨_,rfl⟩
 obtain ⟨bl,fl⟩:∃ b,decide (0<(tl.length:Int))=b:=⟨_,rfl⟩
 obtain ⟨bg,fg⟩:∃ b,decide (g=0)=b:=⟨_,rfl⟩
 obtain ⟨be,fe⟩:∃ b,decide (0<(e.length:Int))=b:=⟨_,rfl⟩
 have fA2:decide (a.length=0)=!bA:=by rw [← fA,← decide_not];exact decide_eq_decide.2 (by omega)
 have fl2:decide (tl.length=0)=!bl:=by rw [← fl,← decide_not];exact decide_eq_decide.2 (by omega)
 have fe2:decide (e.length=0)=!be:=by rw [← fe,← decide_not];exact decide_eq_decide.2 (by omega)
 rw [fN] at hn
 have gk':=gk
 unfold ckO at gk'
 obtain ⟨o,ho⟩:∃ o,YC f grp locals base k (.mk ts tl) n g e A sn=o:=⟨_,rfl⟩
 rw [ho]
 have hfk:∀ {b:Nat},Zx σ b→b≠bk:=fun h e=>by have:=Zm h;rw [e,gk] at this;cases this
 have hfr:∀ {b:Nat},Zx σ b→b≠r:=fun h e=>by have:=Zm h;rw [e,gr] at this;cases this
 have hkr:bk≠r:=fun e=>by rw [e,gr] at gk;cases gk
 subst hk
 refine Zb [5] [(3,6,0),(8,39,0),(14,33,0)] Tryz.func166 rfl (by kernel_rfl) ?_;rw [Tryz.ntmps166,Tryz.results166]
 refine eK ?_
 intro b5 hb5
 refine fF ?_
 refine hp.head ?_
 refine dT ?_
 cases bL
 ·refine dT ?_
  rw [if_neg (by simp only [Ye,ZO,fL,fN,fS,fA2,fn,fs,fl2,fg,fe2];simp)]
  exact dX
 refine dT ?_
 cases bS
 ·refine dT ?_
  rw [if_neg (by simp only [Ye,ZO,fL,fN,fS,fA2,fn,fs,fl2,fg,fe2];simp)]
  exact dX
 refine dT ?_
 cases bA
 rotate_left
 ·refine dT ?_
  rw [if_neg (by simp only [Ye,ZO,fL,fN,fS,fA2,fn,fs,fl2,fg,fe2];simp)]
  exact dX
 refine dT ?_
 cases bn
 ·refine dT ?_
  rw [if_neg (by simp only [Ye,ZO,fL,fN,fS,fA2,fn,fs,fl2,fg,fe2];simp)]
  exact dX
 refine dT ?_
 cases bs
 ·refine dT ?_
  rw [if_neg (by simp only [Ye,ZO,fL,fN,fS,fA2,fn,fs,fl2,fg,fe2];simp)]
  exact dX
 refine dT ?_
 cases bl
 rotate_left
 ·refine dT ?_
  rw [if_neg (by simp only [Ye,ZO,fL,fN,fS,fA2,fn,fs,fl2,fg,fe2];simp)]
  exact dX
 refine dT ?_
 obtain ⟨bq,fq⟩:∃ b,decide (g≤grp)=b:=⟨_,rfl⟩
 refine dV ?_
 cases bq
 rotate_left
 ·refine dV ?_
  have hi:YQ f grp g e A=false:=by
   have h:¬ grp<g:=by have:=of_decide_eq_true fq;omega
   simp only [YQ,decide_eq_false h,Bool.false_and]
  have hst:o=none:=by rw [← ho];simp [YC,hi]
  refine gY ?_
  exact dX
 have hg0:grp<g:=by simpa using fq
 refine dV ?_
 refine ⟨fun h1=>⟨by omega,by omega,fun c hc=>?_⟩,fun h1=>?_⟩
 rotate_left
 ·have h2:f.groups[g.toNat]?=none:=List.getElem?_eq_none (by omega)
  refine dV ?_
  have hi:YQ f grp g e A=false:=by simp only [YQ,h2];simp
  have hst:o=none:=by rw [← ho];simp [YC,hi]
  refine gY ?_
  exact dX
 obtain ⟨u,h2,rfl⟩:=cP hc
 obtain ⟨bu,fu⟩:∃ b,decide ((e.length:Int)=u.env.length)=b:=⟨_,rfl⟩
 have fu2:decide (e.length=u.env.length)=bu:=by rw [← fu];exact decide_eq_decide.2 (by omega)
 try simp only [go_sem,seval,Zn,FGroup.emb,bY,List.length_map,fu,decide_not]
 cases bu
 ·refine dV ?_
  have hi:YQ f grp g e A=false:=by simp only [YQ,h2,fu2];simp
  have hst:o=none:=by rw [← ho];simp [YC,hi]
  refine gY ?_
  exact dX
 refine dV ?_
 have gb5:Store.get ((b5,AObj.cells [.val (.map (some r))])::σ) b5=some (.cells [.val (.map (some r))]):=Zj _ _ _
 have gbr:Store.get ((b5,AObj.cells [.val (.map (some r))])::σ) r=some (.map (ZR keI (Ym A)) A.length):=by rw [Za (hfr hb5),gr]
 refine (QL A r b5 e .none 1 (.inl rfl) _ gb5 gbr).only ?_
 obtain ⟨ba,fa⟩:∃ b,(e.any fun n=>!decide (n∈A))=b:=⟨_,rfl⟩
 rw [fa]
 cases ba
 rotate_left
 ·refine eK ?_
  have hst:o=none:=by
   have hi:YQ f grp g e A=false:=by simp only [YQ,fa];simp
   rw [← ho];simp [YC,hi]
  refine gY ?_
  exact dX
 refine eK ?_
 have hst:o=some (A,sn):=by
  have hi:YQ f grp g e A=true:=by simp only [YQ,fa,h2,fu2];simp [hg0];omega
  rw [← ho];simp [YC,hi]
 have hq:sn≤locals.length:=hsn
 rw [hst,if_pos (by simp only [Ye,ZO,fL,fN,fS,fA2,fn,fs,fl2,fg,fe2];simp [*])]
 simp only
 obtain ⟨q,hqe⟩:∃ q,q=sn:=⟨_,rfl⟩
 rw [← hqe] at hq gk ⊢
 obtain ⟨B,hBe⟩:∃ B,B=A:=⟨_,rfl⟩
 rw [← hBe] at gr ⊢
 obtain ⟨R,hRe⟩:∃ R,R=r:=⟨_,rfl⟩
 rw [← hRe] at gr hkr ⊢
 obtain ⟨T,hT⟩:∃ T:Store,T=(b5,.cells [.val (.map (some R))])::σ:=⟨_,rfl⟩
 have n5k:=hfk hb5
 have nRk:R≠bk:=Ne.symm hkr
 have hTb:∀ y,T.set bk y=(b5,.cells [.val (.map (some R))])::σ.set bk y:=fun y=>by rw [hT,Zk n5k]
 have gTR:T.get R=some (AObj.map (ZR keI (Ym B)) B.length):=by rw [hT,Za (by rw [hRe];exact hfr hb5)];exact gr
 have gT5:T.get b5=some (.cells [.val (.map (some R))]):=by rw [hT,Zj]
 have gTk:T.get bk=some (ckO f grp locals base q):=by rw [hT,Za n5k];exact gk
 have hTs:∀ y,Sub (σ.set bk y) (T.set bk y):=fun y=>by rw [hTb];exact (Sub.refl _).skip _
 rw [← hT]
 refine iB ?_
 refine (VV B R a .none 4 (.inl rfl) T gTR).only ?_
 cases ha:a.all (XO B)
 ·refine eK ?_
  exact .mk (.refl _) (by have:=hTs (ckO f grp locals base q);rw [Zs gTk] at this;exact this) ⟨rfl,q,rfl⟩
 refine eK ?_
 refine Zw (mu:=[5]) (dr:=[(3,6,0),(8,39,0),(14,33,0)]) [6,10,207,208,209,210,211,212,213,214,215,216] (fun x:Nat×Nat=>[(207,vi x.1)]) (fun x=>T.set bk (ckO f grp locals base x.2)) (fun x=>x.1≤l.length∧x.2≤locals.length∧ZX f grp locals base (l.take x.1) B q=some x.2) (fun x=>l.length-x.1) (0,q) (by kernel_rfl) ⟨by omega,hq,by simp [ZX]⟩ ⟨.refl _,trivial⟩ (by rw [Zs gTk];exact .refl _) ?_
 rintro ⟨i,s1⟩ ⟨i1,i2,i3⟩
 simp only at i1 i2 i3
 refine fF ?_
 refine ⟨fun h1=>⟨by omega,h1,fun c hc=>?_⟩,fun h1=>?_⟩
 ·rw [Int.toNat_natCast] at hc
  obtain ⟨x,hx,rfl⟩:=cN hc
  have ihx:=ih x (List.mem_of_getElem? hx) B s1 R
  have hsp:=Yz hx
  have hgs:ZX f grp locals base (l.take (i+1)) B q=Z7 f grp locals base x B s1:=by
   rw [List.take_add_one,hx,Option.toList_some,YL,i3]
   simp only [Option.bind_some,ZX]
   cases Z7 f grp locals base x B s1<;>rfl
  generalize Z7 f grp locals base x B s1=gx at ihx hgs
  obtain ⟨k',s',a',⟨ts',tl'⟩,l',n',g',e'⟩:=x
  simp only [ci] at ihx
  refine iL ?_
  intro b10 hb10
  have n10k:b10≠bk:=fun e=>by have:=Zm hb10;rw [e,Zd gTk] at this;cases this
  have n10R:b10≠R:=fun e=>by have:=Zm hb10;rw [e,Zc nRk,gTR] at this;cases this
  have n105:b10≠b5:=fun e=>by have:=Zm hb10;rw [e,Zc n5k,gT5] at this;cases this
  refine fX ?_
  refine (ihx _ (by rw [Za n10k,Zd gTk]) (by rw [Za n10R,Zc nRk,gTR]) i2).mono ?_
  rintro w S' hw
  cases gx with
  | none =>
    obtain ⟨hw1,s2,hw2⟩:=hw
    rw [hw1,hw2,Zk n10k,Zu]
    refine eK ?_
    have hn:ZX f grp locals base l B q=none:=by
     have:=List.take_append_drop (i+1) l
     rw [← this,YL,hgs];rfl
    rw [hn]
    exact fp
  | some s2 =>
    obtain ⟨hw1,hw2,hw3⟩:=hw
    rw [hw1,hw2,Zk n10k,Zu]
    refine eK ?_
    rw [show IntKind.i64.wrap ((i:Int)+1)=((i+1:Nat):Int) from Zp (by omega) (by omega)]
    exact .mk (i+1,s2) ⟨by omega,hw3,hgs⟩ (by simp only;omega) ⟨.refl _,trivial⟩ (by repeat first | exact Zg.turn _ rfl | refine Zg.put rfl ?_) ((Sub.refl _).skip _)
 ·have hil:l.take i=l:=List.take_of_length_le (by omega)
  rw [hil] at i3
  rw [i3]
  exact fI
theorem FT (f:Flat)(grp:Int)(locals:List Ty)(base:Int)(bk:Nat)(hbase:0≤base∧base≤1000000000000)(hgrp:0≤grp)(hloc:locals.length≤1000000000000)(s ts:Str)(a:List Tm)(tl:List Ty)(l:List Zf)(n g:Int)(e:List Int)(ih:∀ x∈l,GIH f grp locals base bk x):GIH f grp locals base bk (.mk 8 s a (.mk ts tl) l n g e):=by
 obtain ⟨k,hk⟩:∃ k:Int,k=8:=⟨_,rfl⟩
 rw [← hk]
 intro A sn r σ gk gr hsn
 refine Zi.ok (by kernel_rfl) (fun hok=>?_)
 have hlen:=(((hok _ (List.mem_cons_of_mem _ List.mem_cons_self)).agg (c:=.list .none 9 (cE l)) (by simp [ci])).len)
 rw [bW] at hlen
 clear hok
 have hp:=UV k
 have hn:=Wm s
 rw [Z7]
 simp only [ci]
 obtain ⟨bL,fL⟩:∃ b,decide ((l.length:Int)=V2 k)=b:=⟨_,rfl⟩
 obtain ⟨bN,fN⟩:∃ b,YO 1 s=b:=⟨_,rfl⟩
 obtain ⟨bS,fS⟩:∃ b,decide (s=emptyS)=b:=⟨_,rfl⟩
 obtain ⟨bA,fA⟩:∃ b,decide (0<(a.length:Int))=b:=⟨_,rfl⟩
 obtain ⟨bn,fn⟩:∃ b,decide (n=0)=b:=⟨_,rfl⟩
 obtain ⟨bs,fs⟩:∃ b,decide (ts=emptyS)=b:=⟨_,rfl⟩
 obtain ⟨bl,fl⟩:∃ b,decide (0<(tl.length:Int))=b:=⟨_,rfl⟩
 obtain ⟨bg,fg⟩:∃ b,decide (g=0)=b:=⟨_,rfl⟩
 obtain ⟨be,fe⟩:∃ b,decide (0<(e.length:Int))=b:=⟨_,rfl⟩
 have fA2:decide (a.length=0)=!bA:=by rw [← fA,← decide_not];exact decide_eq_decide.2 (by omega)
 have fl2:decide (tl.length=0)=!bl:=by rw [← fl,← decide_not];exact decide_eq_decide.2 (by omega)
 have fe2:decide (e.length=0)=!be:=by rw [← fe,← decide_not];exact decide_eq_decide.2 (by omega)
 rw [fN] at hn
 have gk':=gk
 unfold ckO at gk'
 obtain ⟨o,ho⟩:∃ o,YC f grp locals base k (.mk ts tl) n g e A sn=o:=⟨_,rfl⟩
 rw [ho]
 have hfk:∀ {b:Nat},Zx σ b→b≠bk:=fun h e=>by have:=Zm h;rw [e,gk] at this;cases this
 have hfr:∀ {b:Nat},Zx σ b→b≠r:=fun h e=>by have:=Zm h;rw [e,gr] at this;cases this
 have hkr:bk≠r:=fun e=>by rw [e,gr] at gk;cases gk
 subst hk
 refine Zb [5] [(3,6,0),(8,39,0),(14,33,0)] Tryz.func166 rfl (by kernel_rfl) ?_;rw [Tryz.ntmps166,Tryz.results166]
 refine eK ?_
 intro b5 hb5
 refine fF ?_
 refine hp.head ?_
 refine dT ?_
 cases bL
 ·refine dT ?_
  rw [if_neg (by simp only [Ye,ZO,fL,fN,fS,fA2,fn,fs,fl2,fg,fe2];simp)]
  exact dX
 refine dT ?_
 cases bS
 ·refine dT ?_
  rw [if_neg (by simp only [Ye,ZO,fL,fN,fS,fA2,fn,fs,fl2,fg,fe2];simp)]
  exact dX
 refine dT ?_
 cases bA
 rotate_left
 ·refine dT ?_
  rw [if_neg (by simp only [Ye,ZO,fL,fN,fS,fA2,fn,fs,fl2,fg,fe2];simp)]
  exact dX
 refine dT ?_
 cases bn
 ·refine dT ?_
  rw [if_neg (by simp only [Ye,ZO,fL,fN,fS,fA2,fn,fs,fl2,fg,fe2];simp)]
  exact dX
 refine dT ?_
 cases bs
 ·refine dT ?_
  rw [if_neg (by simp only [Ye,ZO,fL,fN,fS,fA2,fn,fs,fl2,fg,fe2];simp)]
  exact dX
 refine dT ?_
 cases bl
 rotate_left
 ·refine dT ?_
  rw [if_neg (by simp only [Ye,ZO,fL,fN,fS,fA2,fn,fs,fl2,fg,fe2];simp)]
  exact dX
 refine dT ?_
 obtain ⟨bq,fq⟩:∃ b,decide (g≤grp)=b:=⟨_,rfl⟩
 refine dV ?_
 cases bq
 rotate_left
 ·refine dV ?_
  have hi:YQ f grp g e A=false:=by
   have h:¬ grp<g:=by have:=of_decide_eq_true fq;omega
   simp only [YQ,decide_eq_false h,Bool.false_and]
  have hst:o=none:=by rw [← ho];simp [YC,hi]
  refine gY ?_
  exact dX
 have hg0:grp<g:=by simpa using fq
 refine dV ?_
 refine ⟨fun h1=>⟨by omega,by omega,fun c hc=>?_⟩,fun h1=>?_⟩
 rotate_left
 ·have h2:f.groups[g.toNat]?=none:=List.getElem?_eq_none (by omega)
  refine dV ?_
  have hi:YQ f grp g e A=false:=by simp only [YQ,h2];simp
  have hst:o=none:=by rw [← ho];simp [YC,hi]
  refine gY ?_
  exact dX
 obtain ⟨u,h2,rfl⟩:=cP hc
 obtain ⟨bu,fu⟩:∃ b,decide ((e.length:Int)=u.env.length)=b:=⟨_,rfl⟩
 have fu2:decide (e.length=u.env.length)=bu:=by rw [← fu];exact decide_eq_decide.2 (by omega)
 try simp only [go_sem,seval,Zn,FGroup.emb,bY,List.length_map,fu,decide_not]
 cases bu
 ·refine dV ?_
  have hi:YQ f grp g e A=false:=by simp only [YQ,h2,fu2];simp
  have hst:o=none:=by rw [← ho];simp [YC,hi]
  refine gY ?_
  exact dX
 refine dV ?_
 have gb5:Store.get ((b5,AObj.cells [.val (.map (some r))])::σ) b5=some (.cells [.val (.map (some r))]):=Zj _ _ _
 have gbr:Store.get ((b5,AObj.cells [.val (.map (some r))])::σ) r=some (.map (ZR keI (Ym A)) A.length):=by rw [Za (hfr hb5),gr]
 refine (QL A r b5 e .none 1 (.inl rfl) _ gb5 gbr).only ?_
 obtain ⟨ba,fa⟩:∃ b,(e.any fun n=>!decide (n∈A))=b:=⟨_,rfl⟩
 rw [fa]
 cases ba
 rotate_left
 ·refine eK ?_
  have hst:o=none:=by
   have hi:YQ f grp g e A=false:=by simp only [YQ,fa];simp
   rw [← ho];simp [YC,hi]
  refine gY ?_
  exact dX
 refine eK ?_
 have hst:o=some (A,sn):=by
  have hi:YQ f grp g e A=true:=by simp only [YQ,fa,h2,fu2];simp [hg0];omega
  rw [← ho];simp [YC,hi]
 have hq:sn≤locals.length:=hsn
 rw [hst,if_pos (by simp only [Ye,ZO,fL,fN,fS,fA2,fn,fs,fl2,fg,fe2];simp [*])]
 simp only
 obtain ⟨q,hqe⟩:∃ q,q=sn:=⟨_,rfl⟩
 rw [← hqe] at hq gk ⊢
 obtain ⟨B,hBe⟩:∃ B,B=A:=⟨_,rfl⟩
 rw [← hBe] at gr ⊢
 obtain ⟨R,hRe⟩:∃ R,R=r:=⟨_,rfl⟩
 rw [← hRe] at gr hkr ⊢
 obtain ⟨T,hT⟩:∃ T:Store,T=(b5,.cells [.val (.map (some R))])::σ:=⟨_,rfl⟩
 have n5k:=hfk hb5
 have nRk:R≠bk:=Ne.symm hkr
 have hTb:∀ y,T.set bk y=(b5,.cells [.val (.map (some R))])::σ.set bk y:=fun y=>by rw [hT,Zk n5k]
 have gTR:T.get R=some (AObj.map (ZR keI (Ym B)) B.length):=by rw [hT,Za (by rw [hRe];exact hfr hb5)];exact gr
 have gT5:T.get b5=some (.cells [.val (.map (some R))]):=by rw [hT,Zj]
 have gTk:T.get bk=some (ckO f grp locals base q):=by rw [hT,Za n5k];exact gk
 have hTs:∀ y,Sub (σ.set bk y) (T.set bk y):=fun y=>by rw [hTb];exact (Sub.refl _).skip _
 rw [← hT]
 refine iB ?_
 refine (VV B R a .none 4 (.inl rfl) T gTR).only ?_
 cases ha:a.all (XO B)
 ·refine eK ?_
  exact .mk (.refl _) (by have:=hTs (ckO f grp locals base q);rw [Zs gTk] at this;exact this) ⟨rfl,q,rfl⟩
 refine eK ?_
 refine Zw (mu:=[5]) (dr:=[(3,6,0),(8,39,0),(14,33,0)]) [6,10,207,208,209,210,211,212,213,214,215,216] (fun x:Nat×Nat=>[(207,vi x.1)]) (fun x=>T.set bk (ckO f grp locals base x.2)) (fun x=>x.1≤l.length∧x.2≤locals.length∧ZX f grp locals base (l.take x.1) B q=some x.2) (fun x=>l.length-x.1) (0,q) (by kernel_rfl) ⟨by omega,hq,by simp [ZX]⟩ ⟨.refl _,trivial⟩ (by rw [Zs gTk];exact .refl _) ?_
 rintro ⟨i,s1⟩ ⟨i1,i2,i3⟩
 simp only at i1 i2 i3
 refine fF ?_
 refine ⟨fun h1=>⟨by omega,h1,fun c hc=>?_⟩,fun h1=>?_⟩
 ·rw [Int.toNat_natCast] at hc
  obtain ⟨x,hx,rfl⟩:=cN hc
  have ihx:=ih x (List.mem_of_getElem? hx) B s1 R
  have hsp:=Yz hx
  have hgs:ZX f grp locals base (l.take (i+1)) B q=Z7 f grp locals base x B s1:=by
   rw [List.take_add_one,hx,Option.toList_some,YL,i3]
   simp only [Option.bind_some,ZX]
   cases Z7 f grp locals base x B s1<;>rfl
  generalize Z7 f grp locals base x B s1=gx at ihx hgs
  obtain ⟨k',s',a',⟨ts',tl'⟩,l',n',g',e'⟩:=x
  simp only [ci] at ihx
  refine iL ?_
  intro b10 hb10
  have n10k:b10≠bk:=fun e=>by have:=Zm hb10;rw [e,Zd gTk] at this;cases this
  have n10R:b10≠R:=fun e=>by have:=Zm hb10;rw [e,Zc nRk,gTR] at this;cases this
  have n105:b10≠b5:=fun e=>by have:=Zm hb10;rw [e,Zc n5k,gT5] at this;cases this
  refine fX ?_
  refine (ihx _ (by rw [Za n10k,Zd gTk]) (by rw [Za n10R,Zc nRk,gTR]) i2).mono ?_
  rintro w S' hw
  cases gx with
  | none =>
    obtain ⟨hw1,s2,hw2⟩:=hw
    rw [hw1,hw2,Zk n10k,Zu]
    refine eK ?_
    have hn:ZX f grp locals base l B q=none:=by
     have:=List.take_append_drop (i+1) l
     rw [← this,YL,hgs];rfl
    rw [hn]
    exact fp
  | some s2 =>
    obtain ⟨hw1,hw2,hw3⟩:=hw
    rw [hw1,hw2,Zk n10k,Zu]
    refine eK ?_
    rw [show IntKind.i64.wrap ((i:Int)+1)=((i+1:Nat):Int) from Zp (by omega) (by omega)]
    exact .mk (i+1,s2) ⟨by omega,hw3,hgs⟩ (by simp only;omega) ⟨.refl _,trivial⟩ (by repeat first | exact Zg.turn _ rfl | refine Zg.put rfl ?_) ((Sub.refl _).skip _)
 ·have hil:l.take i=l:=List.take_of_length_le (by omega)
  rw [hil] at i3
  rw [i3]
  exact fI
theorem Cm (f:Flat)(grp:Int)(locals:List Ty)(base:Int)(bk:Nat)(hbase:0≤base∧base≤1000000000000)(hgrp:0≤grp)(hloc:locals.length≤1000000000000)(s ts:Str)(a:List Tm)(tl:List Ty)(l:List Zf)(n g:Int)(e:List Int)(ih:∀ x∈l,GIH f grp locals base bk x)(k:Int)(h1:k≠1)(h10:k≠10)(h11:k≠11)(h7:k≠7)(h8:k≠8):GIH f grp locals base bk (.mk k s a (.mk ts tl) l n g e):=by
 have k1:(k=1)=False:=eq_false h1
 have k10:(k=10)=False:=eq_false h10
 have k11:(k=11)=False:=eq_false h11
 have k7:(k=7)=False:=eq_false h7
 have k8:(k=8)=False:=eq_false h8
 intro A sn r σ gk gr hsn
 refine Zi.ok (by kernel_rfl) (fun hok=>?_)
 have hlen:=(((hok _ (List.mem_cons_of_mem _ List.mem_cons_self)).agg (c:=.list .none 9 (cE l)) (by simp [ci])).len)
 rw [bW] at hlen
 clear hok
 have hp:=UV k
 have hn:=Wm s
 rw [Z7]
 simp only [ci]
 obtain ⟨bL,fL⟩:∃ b,decide ((l.length:Int)=V2 k)=b:=⟨_,rfl⟩
 obtain ⟨bN,fN⟩:∃ b,YO 1 s=b:=⟨_,rfl⟩
 obtain ⟨bS,fS⟩:∃ b,decide (s=emptyS)=b:=⟨_,rfl⟩
 obtain ⟨bA,fA⟩:∃ b,decide (0<(a.length:Int))=b:=⟨_,rfl⟩
 obtain ⟨bn,fn⟩:∃ b,decide (n=0)=b:=⟨_,rfl⟩
 obtain ⟨bs,fs⟩:∃ b,decide (ts=emptyS)=b:=⟨_,rfl⟩
 obtain ⟨bl,fl⟩:∃ b,decide (0<(tl.length:Int))=b:=⟨_,rfl⟩
 obtain ⟨bg,fg⟩:∃ b,decide (g=0)=b:=⟨_,rfl⟩
 obtain ⟨be,fe⟩:∃ b,decide (0<(e.length:Int))=b:=⟨_,rfl⟩
 have fA2:decide (a.length=0)=!bA:=by rw [← fA,← decide_not];exact decide_eq_decide.2 (by omega)
 have fl2:decide (tl.length=0)=!bl:=by rw [← fl,← decide_not];exact decide_eq_decide.2 (by omega)
 have fe2:decide (e.length=0)=!be:=by rw [← fe,← decide_not];exact decide_eq_decide.2 (by omega)
 rw [fN] at hn
 have gk':=gk
 unfold ckO at gk'
 obtain ⟨o,ho⟩:∃ o,YC f grp locals base k (.mk ts tl) n g e A sn=o:=⟨_,rfl⟩
 rw [ho]
 have hfk:∀ {b:Nat},Zx σ b→b≠bk:=fun h e=>by have:=Zm h;rw [e,gk] at this;cases this
 have hfr:∀ {b:Nat},Zx σ b→b≠r:=fun h e=>by have:=Zm h;rw [e,gr] at this;cases this
 have hkr:bk≠r:=fun e=>by rw [e,gr] at gk;cases gk
 refine Zb [5] [(3,6,0),(8,39,0),(14,33,0)] Tryz.func166 rfl (by kernel_rfl) ?_;rw [Tryz.ntmps166,Tryz.results166]
 try simp only [go_sem,seval,Zn,k1,k7,k8,k10,k11,decide_false]
 intro b5 hb5
 try simp only [go_sem,seval,Zn,bW,k1,k7,k8,k10,k11,decide_false]
 refine hp.head ?_
 refine dZ ?_
 cases bL
 ·refine dZ ?_
  rw [if_neg (by simp only [Ye,ZO,k1,k7,k8,k10,k11,fL,fN,fS,fA2,fn,fs,fl2,fg,fe2];simp)]
  exact dX
 refine dZ ?_
 cases bS
 ·refine dZ ?_
  rw [if_neg (by simp only [Ye,ZO,k1,k7,k8,k10,k11,fL,fN,fS,fA2,fn,fs,fl2,fg,fe2];simp)]
  exact dX
 refine dZ ?_
 cases bA
 rotate_left
 ·refine dZ ?_
  rw [if_neg (by simp only [Ye,ZO,k1,k7,k8,k10,k11,fL,fN,fS,fA2,fn,fs,fl2,fg,fe2];simp)]
  exact dX
 refine dZ ?_
 cases bn
 ·refine dZ ?_
  rw [if_neg (by simp only [Ye,ZO,k1,k7,k8,k10,k11,fL,fN,fS,fA2,fn,fs,fl2,fg,fe2];simp)]
  exact dX
 refine dZ ?_
 cases bs
 ·refine dZ ?_
  rw [if_neg (by simp only [Ye,ZO,k1,k7,k8,k10,k11,fL,fN,fS,fA2,fn,fs,fl2,fg,fe2];simp)]
  exact dX
 refine dZ ?_
 cases bl
 rotate_left
 ·refine dZ ?_
  rw [if_neg (by simp only [Ye,ZO,k1,k7,k8,k10,k11,fL,fN,fS,fA2,fn,fs,fl2,fg,fe2];simp)]
  exact dX
 refine dZ ?_
 cases bg
 ·refine dZ ?_
  rw [if_neg (by simp only [Ye,ZO,k1,k7,k8,k10,k11,fL,fN,fS,fA2,fn,fs,fl2,fg,fe2];simp)]
  exact dX
 refine dZ ?_
 cases be
 rotate_left
 ·refine dZ ?_
  rw [if_neg (by simp only [Ye,ZO,k1,k7,k8,k10,k11,fL,fN,fS,fA2,fn,fs,fl2,fg,fe2];simp)]
  exact dX
 refine dZ ?_
 refine dZ ?_
 have hst:o=some (A,sn):=by rw [← ho];simp [YC, *]
 have hq:sn≤locals.length:=hsn
 rw [hst,if_pos (by simp only [Ye,ZO,fL,fN,fS,fA2,fn,fs,fl2,fg,fe2];simp [*])]
 simp only
 obtain ⟨q,hqe⟩:∃ q,q=sn:=⟨_,rfl⟩
 rw [← hqe] at hq gk ⊢
 obtain ⟨B,hBe⟩:∃ B,B=A:=⟨_,rfl⟩
 rw [← hBe] at gr ⊢
 obtain ⟨R,hRe⟩:∃ R,R=r:=⟨_,rfl⟩
 rw [← hRe] at gr hkr ⊢
 obtain ⟨T,hT⟩:∃ T:Store,T=(b5,.cells [.val (.map (some R))])::σ:=⟨_,rfl⟩
 have n5k:=hfk hb5
 have nRk:R≠bk:=Ne.symm hkr
 have hTb:∀ y,T.set bk y=(b5,.cells [.val (.map (some R))])::σ.set bk y:=fun y=>by rw [hT,Zk n5k]
 have gTR:T.get R=some (AObj.map (ZR keI (Ym B)) B.length):=by rw [hT,Za (by rw [hRe];exact hfr hb5)];exact gr
 have gT5:T.get b5=some (.cells [.val (.map (some R))]):=by rw [hT,Zj]
 have gTk:T.get bk=some (ckO f grp locals base q):=by rw [hT,Za n5k];exact gk
 have hTs:∀ y,Sub (σ.set bk y) (T.set bk y):=fun y=>by rw [hTb];exact (Sub.refl _).skip _
 rw [← hT]
 refine iB ?_
 refine (VV B R a .none 4 (.inl rfl) T gTR).only ?_
 cases ha:a.all (XO B)
 ·refine eK ?_
  exact .mk (.refl _) (by have:=hTs (ckO f grp locals base q);rw [Zs gTk] at this;exact this) ⟨rfl,q,rfl⟩
 refine eK ?_
 refine Zw (mu:=[5]) (dr:=[(3,6,0),(8,39,0),(14,33,0)]) [6,10,207,208,209,210,211,212,213,214,215,216] (fun x:Nat×Nat=>[(207,vi x.1)]) (fun x=>T.set bk (ckO f grp locals base x.2)) (fun x=>x.1≤l.length∧x.2≤locals.length∧ZX f grp locals base (l.take x.1) B q=some x.2) (fun x=>l.length-x.1) (0,q) (by kernel_rfl) ⟨by omega,hq,by simp [ZX]⟩ ⟨.refl _,trivial⟩ (by rw [Zs gTk];exact .refl _) ?_
 rintro ⟨i,s1⟩ ⟨i1,i2,i3⟩
 simp only at i1 i2 i3
 refine fF ?_
 refine ⟨fun h1=>⟨by omega,h1,fun c hc=>?_⟩,fun h1=>?_⟩
 ·rw [Int.toNat_natCast] at hc
  obtain ⟨x,hx,rfl⟩:=cN hc
  have ihx:=ih x (List.mem_of_getElem? hx) B s1 R
  have hsp:=Yz hx
  have hgs:ZX f grp locals base (l.take (i+1)) B q=Z7 f grp locals base x B s1:=by
   rw [List.take_add_one,hx,Option.toList_some,YL,i3]
   simp only [Option.bind_some,ZX]
   cases Z7 f grp locals base x B s1<;>rfl
  generalize Z7 f grp locals base x B s1=gx at ihx hgs
  obtain ⟨k',s',a',⟨ts',tl'⟩,l',n',g',e'⟩:=x
  simp only [ci] at ihx
  refine iL ?_
  intro b10 hb10
  have n10k:b10≠bk:=fun e=>by have:=Zm hb10;rw [e,Zd gTk] at this;cases this
  have n10R:b10≠R:=fun e=>by have:=Zm hb10;rw [e,Zc nRk,gTR] at this;cases this
  have n105:b10≠b5:=fun e=>by have:=Zm hb10;rw [e,Zc n5k,gT5] at this;cases this
  refine fX ?_
  refine (ihx _ (by rw [Za n10k,Zd gTk]) (by rw [Za n10R,Zc nRk,gTR]) i2).mono ?_
  rintro w S' hw
  cases gx with
  | none =>
    obtain ⟨hw1,s2,hw2⟩:=hw
    rw [hw1,hw2,Zk n10k,Zu]
    refine eK ?_
    have hn:ZX f grp locals base l B q=none:=by
     have:=List.take_append_drop (i+1) l
     rw [← this,YL,hgs];rfl
    rw [hn]
    exact fp
  | some s2 =>
    obtain ⟨hw1,hw2,hw3⟩:=hw
    rw [hw1,hw2,Zk n10k,Zu]
    refine eK ?_
    rw [show IntKind.i64.wrap ((i:Int)+1)=((i+1:Nat):Int) from Zp (by omega) (by omega)]
    exact .mk (i+1,s2) ⟨by omega,hw3,hgs⟩ (by simp only;omega) ⟨.refl _,trivial⟩ (by repeat first | exact Zg.turn _ rfl | refine Zg.put rfl ?_) ((Sub.refl _).skip _)
 ·have hil:l.take i=l:=List.take_of_length_le (by omega)
  rw [hil] at i3
  rw [i3]
  exact fI
theorem FS (f:Flat)(grp:Int)(locals:List Ty)(base:Int)(bk:Nat)(hbase:0≤base∧base≤1000000000000)(hgrp:0≤grp)(hloc:locals.length≤1000000000000)(x:Zf):GIH f grp locals base bk x:=by
 induction x using dp with | h k s a t l n g e ih=>?_
 obtain ⟨ts,tl⟩:=t
 have hk:k=1∨k=10∨k=11∨k=7∨k=8∨(k≠1∧k≠10∧k≠11∧k≠7∧k≠8):=by omega
 rcases hk with rfl | rfl | rfl | rfl | rfl | ⟨k1,k10,k11,k7,k8⟩
 ·exact Cn f grp locals base bk hbase hgrp hloc s ts a tl l n g e ih
 ·exact Hc f grp locals base bk hbase hgrp hloc s ts a tl l n g e ih
 ·exact Hb f grp locals base bk hbase hgrp hloc s ts a tl l n g e ih
 ·exact FU f grp locals base bk hbase hgrp hloc s ts a tl l n g e ih
 ·exact FT f grp locals base bk hbase hgrp hloc s ts a tl l n g e ih
 ·exact Cm f grp locals base bk hbase hgrp hloc s ts a tl l n g e ih k k1 k10 k11 k7 k8
end Go.Vx
