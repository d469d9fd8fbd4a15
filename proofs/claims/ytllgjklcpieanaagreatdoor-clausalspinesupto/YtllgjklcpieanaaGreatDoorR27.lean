/- A part of the proof of clausalSpinesProved. -/
import Derived.Test.YtllgjklcpieanaaGreatDoorR26
import Derived.Test.YtllgjklcpieanaaGreatDoorR20
set_option linter.unusedVariables false
set_option linter.unusedSimpArgs false
set_option maxRecDepth 100000
namespace Go.Vx
open Go.Proofs
theorem Wj(s:Str):Pur nC 108 [vs s] (vb (ZC 1 s)):=by
 intro σ
 have h:Pur nC 169 [vs s,vi 1] (vb (ZC 1 s)):=by
  intro σ
  refine Zb [] [] Tryz.func169 rfl xy ?_;rw[Tryz.ntmps169,Tryz.results169]
  refine uw ?_
  refine(NP 1 0 s).use ?_
  refine uw ?_
  refine Zs ?_
  cases ZC 1 s<;>simp
 refine Zb [] [] Tryz.func108 rfl xy ?_;rw[Tryz.ntmps108,Tryz.results108]
 exact uo
def V6(k:Int):Int:=if k=1\/k=2\/k=3 then 0 else if k=4\/k=5\/k=6 then 2 else if k=9\/k=12\/k=10\/k=11\/k=7\/k=8 then 1 else -1
theorem U4(k:Int):Pur nC 170 [vi k] (vi (V6 k)):=by
 intro σ
 refine Zb [] [] Tryz.func170 rfl xy ?_;rw[Tryz.ntmps170,Tryz.results170]
 refine uw ?_
 repeat first|exact Us (by simp_all [V6])|refine⟨fun _=>?_,fun _=>?_⟩
def Yg(k:Int)(s:Str)(la:Nat)(ts:Str)(tl:Nat)(ll:Nat)(n g:Int)(le:Nat):Bool :=
 decide ((ll:Int)=V6 k)&&(if k=1 then ZO s else decide (s=Xu)&&decide (la=0)) &&
 (if k=10\/k=11 then true else decide (n=0)&&decide (ts=Xu)&&decide (tl=0))&&(if k=7\/k=8 then true else decide (g=0)&&decide (le=0))
def W6(locals:List Ty)(base:Int)(t:Ty)(n:Int)(sn:Nat):Bool :=
 decide (n=base+sn)&&(match locals[sn]? with|some u=>Z1 t&&(Z1 t&&Z1 u&&UC t u)|none=>false)
def YG(f:Flat)(grp:Int)(g:Int)(e:List Int)(A:List Int):Bool :=
 decide (grp<g)&&(decide (0<=g)&&match f.groups[g.toNat]? with|some u=>decide (e.length=u.env.length)|none=>false)&&!(e.any fun n=>!decide (n∈A))
def Yy(f:Flat)(grp:Int)(locals:List Ty)(base:Int)(k:Int)(t:Ty)(n g:Int)(e:List Int)(A:List Int)(sn:Nat):nM (List Int×Nat) :=
 if k=10\/k=11 then(if W6 locals base t n sn then some (n::A,sn+1) else none)
 else if k=7\/k=8 then(if YG f grp g e A then some (A,sn) else none)
 else some (A,sn)
mutual
def Yr(f:Flat)(grp:Int)(locals:List Ty)(base:Int):Zi->List Int->Nat->nM Nat
 | .mk k s a t l n g e,A,sn =>
   if Yg k s a.length (match t with|.mk ts _=>ts) (match t with|.mk _ tl=>tl.length) l.length n g e.length then
    match Yy f grp locals base k t n g e A sn with
    | some q=>if a.all (XW q.1) then Z0 f grp locals base l q.1 q.2 else none
    | none=>none
   else none
def Z0(f:Flat)(grp:Int)(locals:List Ty)(base:Int):List Zi->List Int->Nat->nM Nat
 | [],_,sn=>some sn
 | x::r,A,sn=>match Yr f grp locals base x A sn with
   | some s=>Z0 f grp locals base r A s
   | none=>none
end
theorem UH{A B:List Int}(h:∀ x,x∈A↔x∈B):XW A=XW B:=by
 funext t
 simp only[XW,h]
theorem Mk{f:Flat}{grp:Int}{locals:List Ty}{base k:Int}{t:Ty}{n g:Int}{e:List Int}{A B:List Int}{sn:Nat}(h:∀ x,x∈A↔x∈B) :
 (Yy f grp locals base k t n g e A sn=none/\Yy f grp locals base k t n g e B sn=none)\/∃ A' B' s,Yy f grp locals base k t n g e A sn=some (A',s)/\Yy f grp locals base k t n g e B sn=some (B',s)/\∀ x,x∈A'↔x∈B':=by
 have hi:YG f grp g e A=YG f grp g e B:=by simp only[YG,h]
 unfold Yy
 rw[hi]
 split
 ·split
  ·exact .inr ⟨_,_,_,rfl,rfl,by simp[h]⟩
  ·exact .inl ⟨rfl,rfl⟩
 ·split
  ·split
   ·exact .inr ⟨_,_,_,rfl,rfl,h⟩
   ·exact .inl ⟨rfl,rfl⟩
  ·exact .inr ⟨_,_,_,rfl,rfl,h⟩
mutual
theorem Lb(f:Flat)(grp:Int)(locals:List Ty)(base:Int):∀ (x:Zi) (A B:List Int) (sn:Nat),(∀ y,y∈A↔y∈B)->Yr f grp locals base x A sn=Yr f grp locals base x B sn
 | .mk k s a t l n g e,A,B,sn,h=>by
   simp only[Yr]
   rcases Mk (f:=f) (grp:=grp) (locals:=locals) (base:=base) (k:=k) (t:=t) (n:=n) (g:=g) (e:=e) (sn:=sn) h with⟨h1,h2⟩|⟨A',B',s',h1,h2,h3⟩
   ·rw[h1,h2]
   ·rw[h1,h2];simp only;rw[UH h3,WQ f grp locals base l A' B' s' h3]
theorem WQ(f:Flat)(grp:Int)(locals:List Ty)(base:Int):∀ (x:List Zi) (A B:List Int) (sn:Nat),(∀ y,y∈A↔y∈B)->Z0 f grp locals base x A sn=Z0 f grp locals base x B sn
 | [],A,B,sn,h=>rfl
 | x::r,A,B,sn,h=>by
   simp only[Z0]
   rw[Lb f grp locals base x A B sn h]
   cases Yr f grp locals base x B sn with
   | none=>rfl
   | some s=>exact WQ f grp locals base r A B s h
end
theorem YB(f:Flat)(grp:Int)(locals:List Ty)(base:Int)(l m:List Zi)(A:List Int)(sn:Nat):Z0 f grp locals base (l++m) A sn=(Z0 f grp locals base l A sn).bind (Z0 f grp locals base m A):=by
 induction l generalizing sn with
 | nil=>rfl
 | cons x r ih =>
   simp only[kE,Z0]
   cases Yr f grp locals base x A sn with
   | none=>rfl
   | some s=>exact ih s
def ckO(f:Flat)(grp:Int)(locals:List Ty)(base:Int)(sn:Nat):AObj:=.cells [.list .none 2 (cX f.groups),.list .none 1 (Zu f.rules),vi grp,.list .none 2 (cI locals),vi (base+sn),vi sn]
theorem Zw{σ:Store}{b:Nat}{x:AObj}(h:σ.get b=some x):σ.set b x=σ:=by
 induction σ with
 | nil=>rfl
 | cons p r ih =>
   obtain⟨c,y⟩:=p
   by_cases e:c=b
   ·subst e;rw[Ze] at h;injection h with h;rw[h,Yo]
   ·rw[Zc e] at h;rw[Zo e,ih h]
def cj(f:Flat)(grp:Int)(locals:List Ty)(base:Int)(bk:Nat)(σ:Store)(o:nM Nat):ZE->Store->Prop:=fun x S'=>match o with
 | some sn'=>x=.ret (vb true)/\S'=σ.set bk (ckO f grp locals base sn')/\sn'<=locals.length
 | none=>x=.ret (vb false)/\∃ sn',S'=σ.set bk (ckO f grp locals base sn')
def GIH (f:Flat)(grp:Int)(locals:List Ty)(base:Int)(bk:Nat)(x:Zi):Prop:=∀ (A:List Int) (sn r:Nat) (σ:Store),
    σ.get bk=some (ckO f grp locals base sn)->σ.get r=some (.map (ZS keI (Yj A)) A.length)->sn<=locals.length ->
    Zh nC 109 [.val (.pointer (some ⟨bk,0,none⟩)),.agg x.emb,.val (.map (some r))] σ (cj f grp locals base bk σ (Yr f grp locals base x A sn))
theorem C6(f:Flat)(grp:Int)(locals:List Ty)(base:Int)(bk:Nat)(hbase:0<=base/\base<=1000000000000)(hgrp:0<=grp)(hloc:locals.length<=1000000000000)(s ts:Str)(a:List Tm)(tl:List Ty)(l:List Zi)(n g:Int)(e:List Int)(ih:∀ x∈l,GIH f grp locals base bk x):GIH f grp locals base bk (.mk 1 s a (.mk ts tl) l n g e):=by
 obtain⟨k,hk⟩:∃ k:Int,k=1:=⟨_,rfl⟩
 rw[<- hk]
 intro A sn r σ gk gr hsn
 refine Zh.ok xy (fun hok=>?_)
 have hlen:=(((hok _ (kR _ ir)).agg (c:=.list .none 9 (cY l)) xu).len)
 rw[cH] at hlen
 clear hok
 have hp:=U4 k
 have hn:=Wj s
 rw[Yr]
 simp only[cV]
 obtain⟨bL,fL⟩:∃ b,decide ((l.length:Int)=V6 k)=b:=⟨_,rfl⟩
 obtain⟨bN,fN⟩:∃ b,ZC 1 s=b:=⟨_,rfl⟩
 obtain⟨bS,fS⟩:∃ b,decide (s=Xu)=b:=⟨_,rfl⟩
 obtain⟨bA,fA⟩:∃ b,decide (0<(a.length:Int))=b:=⟨_,rfl⟩
 obtain⟨bn,fn⟩:∃ b,decide (n=0)=b:=⟨_,rfl⟩
 obtain⟨bs,fs⟩:∃ b,decide (ts=Xu)=b:=⟨_,rfl⟩
 obtain⟨bl,fl⟩:∃ b,decide (0<(tl.length:Int))=b:=⟨_,rfl⟩
 obtain⟨bg,fg⟩:∃ b,decide (g=0)=b:=⟨_,rfl⟩
 obtain⟨be,fe⟩:∃ b,decide (0<(e.length:Int))=b:=⟨_,rfl⟩
 have fA2:decide (a.length=0)=!bA:=by rw[<- fA,<- jm];exact decide_eq_decide.2 xh
 have fl2:decide (tl.length=0)=!bl:=by rw[<- fl,<- jm];exact decide_eq_decide.2 xh
 have fe2:decide (e.length=0)=!be:=by rw[<- fe,<- jm];exact decide_eq_decide.2 xh
 rw[fN] at hn
 have gk':=gk
 unfold ckO at gk'
 obtain⟨o,ho⟩:∃ o,Yy f grp locals base k (.mk ts tl) n g e A sn=o:=⟨_,rfl⟩
 rw[ho]
 have hfk:∀ {b:Nat},Zm σ b->b≠bk:=fun h e=>by have:=Zj h;rw[e,gk] at this;cases this
 have hfr:∀ {b:Nat},Zm σ b->b≠r:=fun h e=>by have:=Zj h;rw[e,gr] at this;cases this
 have hkr:bk≠r:=fun e=>by rw[e,gr] at gk;cases gk
 subst hk
 refine Zb [5] [(3,6,0),(8,39,0),(14,33,0)] Tryz.func109 rfl xy ?_;rw[kV,kW]
 refine uw ?_
 intro b5 hb5
 try simp only[go_sem,seval,cH]
 refine hp.head ?_
 refine uX ?_
 cases bL
 ·exact nR
 refine uX ?_
 refine hn.use ?_
 cases bN
 ·exact nR
 cases bn
 ·exact nR
 refine uX ?_
 cases bs
 ·exact nR
 refine uX ?_
 cases bl
 rotate_left
 ·exact nR
 refine uX ?_
 cases bg
 ·exact nR
 refine uX ?_
 cases be
 rotate_left
 ·exact nR
 refine uX ?_
 refine uX ?_
 have hst:o=some (A,sn):=by rw[<- ho];simp[Yy]
 exact tD
theorem H1(f:Flat)(grp:Int)(locals:List Ty)(base:Int)(bk:Nat)(hbase:0<=base/\base<=1000000000000)(hgrp:0<=grp)(hloc:locals.length<=1000000000000)(s ts:Str)(a:List Tm)(tl:List Ty)(l:List Zi)(n g:Int)(e:List Int)(ih:∀ x∈l,GIH f grp locals base bk x):GIH f grp locals base bk (.mk 10 s a (.mk ts tl) l n g e):=by
 obtain⟨k,hk⟩:∃ k:Int,k=10:=⟨_,rfl⟩
 exact tA
theorem H0(f:Flat)(grp:Int)(locals:List Ty)(base:Int)(bk:Nat)(hbase:0<=base/\base<=1000000000000)(hgrp:0<=grp)(hloc:locals.length<=1000000000000)(s ts:Str)(a:List Tm)(tl:List Ty)(l:List Zi)(n g:Int)(e:List Int)(ih:∀ x∈l,GIH f grp locals base bk x):GIH f grp locals base bk (.mk 11 s a (.mk ts tl) l n g e):=by
 obtain⟨k,hk⟩:∃ k:Int,k=11:=⟨_,rfl⟩
 exact tA
theorem Ey(f:Flat)(grp:Int)(locals:List Ty)(base:Int)(bk:Nat)(hbase:0<=base/\base<=1000000000000)(hgrp:0<=grp)(hloc:locals.length<=1000000000000)(s ts:Str)(a:List Tm)(tl:List Ty)(l:List Zi)(n g:Int)(e:List Int)(ih:∀ x∈l,GIH f grp locals base bk x):GIH f grp locals base bk (.mk 7 s a (.mk ts tl) l n g e):=by
 obtain⟨k,hk⟩:∃ k:Int,k=7:=⟨_,rfl⟩
 exact tC
theorem Ex(f:Flat)(grp:Int)(locals:List Ty)(base:Int)(bk:Nat)(hbase:0<=base/\base<=1000000000000)(hgrp:0<=grp)(hloc:locals.length<=1000000000000)(s ts:Str)(a:List Tm)(tl:List Ty)(l:List Zi)(n g:Int)(e:List Int)(ih:∀ x∈l,GIH f grp locals base bk x):GIH f grp locals base bk (.mk 8 s a (.mk ts tl) l n g e):=by
 obtain⟨k,hk⟩:∃ k:Int,k=8:=⟨_,rfl⟩
 exact tC
theorem C5(f:Flat)(grp:Int)(locals:List Ty)(base:Int)(bk:Nat)(hbase:0<=base/\base<=1000000000000)(hgrp:0<=grp)(hloc:locals.length<=1000000000000)(s ts:Str)(a:List Tm)(tl:List Ty)(l:List Zi)(n g:Int)(e:List Int)(ih:∀ x∈l,GIH f grp locals base bk x)(k:Int)(h1:k≠1)(h10:k≠10)(h11:k≠11)(h7:k≠7)(h8:k≠8):GIH f grp locals base bk (.mk k s a (.mk ts tl) l n g e):=by
 have k1:(k=1)=False:=iU h1
 have k10:(k=10)=False:=iU h10
 have k11:(k=11)=False:=iU h11
 have k7:(k=7)=False:=iU h7
 have k8:(k=8)=False:=iU h8
 intro A sn r σ gk gr hsn
 refine Zh.ok xy (fun hok=>?_)
 have hlen:=(((hok _ (kR _ ir)).agg (c:=.list .none 9 (cY l)) xu).len)
 rw[cH] at hlen
 clear hok
 have hp:=U4 k
 have hn:=Wj s
 rw[Yr]
 simp only[cV]
 obtain⟨bL,fL⟩:∃ b,decide ((l.length:Int)=V6 k)=b:=⟨_,rfl⟩
 obtain⟨bN,fN⟩:∃ b,ZC 1 s=b:=⟨_,rfl⟩
 obtain⟨bS,fS⟩:∃ b,decide (s=Xu)=b:=⟨_,rfl⟩
 obtain⟨bA,fA⟩:∃ b,decide (0<(a.length:Int))=b:=⟨_,rfl⟩
 obtain⟨bn,fn⟩:∃ b,decide (n=0)=b:=⟨_,rfl⟩
 obtain⟨bs,fs⟩:∃ b,decide (ts=Xu)=b:=⟨_,rfl⟩
 obtain⟨bl,fl⟩:∃ b,decide (0<(tl.length:Int))=b:=⟨_,rfl⟩
 obtain⟨bg,fg⟩:∃ b,decide (g=0)=b:=⟨_,rfl⟩
 obtain⟨be,fe⟩:∃ b,decide (0<(e.length:Int))=b:=⟨_,rfl⟩
 have fA2:decide (a.length=0)=!bA:=by rw[<- fA,<- jm];exact decide_eq_decide.2 xh
 have fl2:decide (tl.length=0)=!bl:=by rw[<- fl,<- jm];exact decide_eq_decide.2 xh
 have fe2:decide (e.length=0)=!be:=by rw[<- fe,<- jm];exact decide_eq_decide.2 xh
 rw[fN] at hn
 have gk':=gk
 unfold ckO at gk'
 obtain⟨o,ho⟩:∃ o,Yy f grp locals base k (.mk ts tl) n g e A sn=o:=⟨_,rfl⟩
 rw[ho]
 have hfk:∀ {b:Nat},Zm σ b->b≠bk:=fun h e=>by have:=Zj h;rw[e,gk] at this;cases this
 have hfr:∀ {b:Nat},Zm σ b->b≠r:=fun h e=>by have:=Zj h;rw[e,gr] at this;cases this
 have hkr:bk≠r:=fun e=>by rw[e,gr] at gk;cases gk
 refine Zb [5] [(3,6,0),(8,39,0),(14,33,0)] Tryz.func109 rfl xy ?_;rw[kV,kW]
 try simp only[go_sem,seval,k1,k7,k8,k10,k11,iV]
 intro b5 hb5
 try simp only[go_sem,seval,cH,k1,k7,k8,k10,k11,iV]
 refine hp.head ?_
 refine uD ?_
 cases bL
 ·exact tG
 refine uD ?_
 cases bS
 ·exact tG
 refine uD ?_
 cases bA
 rotate_left
 ·exact tG
 refine uD ?_
 cases bn
 ·exact tG
 refine uD ?_
 cases bs
 ·exact tG
 refine uD ?_
 cases bl
 rotate_left
 ·exact tG
 refine uD ?_
 cases bg
 ·exact tG
 refine uD ?_
 cases be
 rotate_left
 ·exact tG
 refine uD ?_
 refine uD ?_
 have hst:o=some (A,sn):=by rw[<- ho];simp[Yy, *]
 exact tD
theorem Ew(f:Flat)(grp:Int)(locals:List Ty)(base:Int)(bk:Nat)(hbase:0<=base/\base<=1000000000000)(hgrp:0<=grp)(hloc:locals.length<=1000000000000)(x:Zi):GIH f grp locals base bk x:=by
 induction x using fC with|h k s a t l n g e ih=>?_
 obtain⟨ts,tl⟩:=t
 have hk:k=1\/k=10\/k=11\/k=7\/k=8\/(k≠1/\k≠10/\k≠11/\k≠7/\k≠8):=by omega
 rcases hk with rfl|rfl|rfl|rfl|rfl|⟨k1,k10,k11,k7,k8⟩
 ·exact C6 f grp locals base bk hbase hgrp hloc s ts a tl l n g e ih
 ·exact H1 f grp locals base bk hbase hgrp hloc s ts a tl l n g e ih
 ·exact H0 f grp locals base bk hbase hgrp hloc s ts a tl l n g e ih
 ·exact Ey f grp locals base bk hbase hgrp hloc s ts a tl l n g e ih
 ·exact Ex f grp locals base bk hbase hgrp hloc s ts a tl l n g e ih
 ·exact C5 f grp locals base bk hbase hgrp hloc s ts a tl l n g e ih k k1 k10 k11 k7 k8
end Go.Vx
