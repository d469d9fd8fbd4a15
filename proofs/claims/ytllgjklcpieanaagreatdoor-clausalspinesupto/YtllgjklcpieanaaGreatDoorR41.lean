/- A part of the proof of clausalSpinesProved. -/
import Derived.Test.YtllgjklcpieanaaGreatDoorR40
set_option linter.unusedVariables false
set_option linter.unusedSimpArgs false
set_option maxRecDepth 100000
section
namespace Go.Vx
open Go.Proofs Go.RowKit
mutual
theorem K5:∀ (t:Ro) (m:Nat),dpB t m=false->dpB t (m+1)=false
 | .mk l,0,h=>by simp[dpB] at h
 | .mk l,m+1,h=>by simp only[dpB] at h ⊢;exact IB l m h
theorem IB:∀ (l:List Ro) (m:Nat),K4 l m=false->K4 l (m+1)=false
 | [],_,_=>rfl
 | a::r,m,h=>by simp only[K4,nw] at h ⊢;exact⟨K5 a m h.1,IB r m h.2⟩
end
theorem NJ{k:Int}{s:Str}{a:List Tm}{t:Ty}{l:List Fm}{n:Nat}(h:dpB (Fm.mk k s a t l).shape n=false):∀ g∈l,dpB g.shape n=false:=by
 obtain⟨m,rfl,hm⟩:=dp_kid h
 exact fun g hg=>K5 _ _ (hm g hg)
theorem Dq(bd:List Int)(x:Int)(i:Nat)(n:Int)(h:(i:Int)<=n):atB (bd++[x]) i n=x\/((i+1:Nat):Int)<=n/\atB (bd++[x]) i n=atB bd (i+1) n:=by
 unfold atB
 by_cases e:n=i
 ·left
  rw[e,ii]
  simp
 ·obtain⟨k,hk⟩:∃ k,(n-(i:Int)).toNat=k+1:=⟨(n-i).toNat-1,by omega⟩
  have hk2:(n-((i+1:Nat):Int)).toNat=k:=by omega
  rw[hk,hk2,ii]
  by_cases hb:bd.length=0
  ·left
   have:bd=[]:=List.length_eq_zero_iff.1 hb
   subst this;simp
  ·right
   refine⟨by omega,?_⟩
   rw[jQ,jQ,jU xz]
   congr 2
   simp;omega
mutual
theorem IU(bd:List Int)(x:Int)(q:QF):∀ (t:Tm) (i:Nat) (n:Int),n∈Wz (bd++[x]) q t i->n=x\/n∈Wz bd q t (i+1)
 | .mk k m s l,i,n,h=>by
   simp only[Wz,mi] at h ⊢
   rcases h with h|h
   ·by_cases h4:k=4
    ·rw[gZ h4] at h ⊢;exact .inr (.inl h)
    ·rw[ig h4] at h ⊢
     by_cases h2:k=2/\(i:Int)<=m
     ·rw[gZ h2] at h
      rw[mW] at h
      rcases Dq bd x i m h2.2 with e|⟨e1,e2⟩
      ·exact .inl (h.trans e)
      ·rw[gZ ⟨h2.1,e1⟩]
       exact .inr (.inl (by rw[mW,h,e2]))
     ·rw[ig h2] at h;cases h
   ·have:=VZ bd x q l _ n h
    rcases this with e|e
    ·exact .inl e
    ·refine .inr (.inr ?_)
     by_cases h5:k=5
     ·rw[gZ h5] at e ⊢;exact e
     ·rw[ig h5] at e ⊢;exact e
theorem VZ(bd:List Int)(x:Int)(q:QF):∀ (l:List Tm) (i:Nat) (n:Int),n∈ZK (bd++[x]) q l i->n=x\/n∈ZK bd q l (i+1)
 | [],_,_,h=>by simp[ZK] at h
 | t::r,i,n,h=>by
   simp only[ZK,mi] at h ⊢
   rcases h with h|h
   ·exact(IU bd x q t i n h).imp id .inl
   ·exact(VZ bd x q r i n h).imp id .inr
end
mutual
theorem ST(bd:List Int)(x:Int)(q:QF):∀ (f:Fm) (i:Nat) (n:Int),n∈YQ (bd++[x]) q f i->n=x\/n∈YQ bd q f (i+1)
 | .mk k s a t l,i,n,h=>by
   simp only[YQ,mi] at h ⊢
   by_cases hq:k=10\/k=11
   ·simp only[gZ hq] at h ⊢
    exact sK
   ·simp only[ig hq] at h ⊢
    exact sK
theorem TO(bd:List Int)(x:Int)(q:QF):∀ (l:List Fm) (i:Nat) (n:Int),n∈Ye (bd++[x]) q l i->n=x\/n∈Ye bd q l (i+1)
 | [],_,_,h=>by simp[Ye] at h
 | t::r,i,n,h=>by
   simp only[Ye,mi] at h ⊢
   rcases h with h|h
   ·exact(ST bd x q t i n h).imp id .inl
   ·exact(TO bd x q r i n h).imp id .inr
end
mutual
theorem G1(bd:List Int)(q:QF)(o:List Int)(V:Nat):∀ (t:Tm) (i:Nat) (n:Int),scT V t (i+bd.length)=true->n∈Wz (bd.map (Xo o)) (W7 o q) t i->∃ m∈Wz bd q t i,n=Xo o m
 | .mk k m s l,i,n,hs,h=>by
   simp only[scT,kJ] at hs
   simp only[Wz,mi] at h ⊢
   rcases h with h|h
   ·by_cases h4:k=4
    ·rw[gZ h4] at h ⊢
     unfold W7 at h
     cases hq:q m with
     | none=>rw[hq] at h;simp at h
     | some y =>
       rw[hq] at h
       simp only[jk] at h
       split at h
       ·simp at h
       ·simp at h;exact⟨y,.inl xf,h⟩
    ·rw[ig h4] at h ⊢
     by_cases h2:k=2/\(i:Int)<=m
     ·rw[gZ h2] at h ⊢
      rw[mW] at h
      refine⟨_,.inl (List.mem_singleton.2 rfl),h.trans ?_⟩
      have h3:=hs.1
      rw[gZ h2.1] at h3
      simp only[kJ,kD] at h3
      unfold atB
      rw[io,jQ,jQ,jp,iO xh]
      rfl
     ·rw[ig h2] at h;cases h
   ·have h2:=hs.2
    have:=SO bd q o V l _ n (by
     by_cases h5:k=5
     ·rw[gZ h5] at h2 ⊢;rw[<- h2];congr 1;omega
     ·rw[ig h5] at h2 ⊢;exact h2) h
    obtain⟨m',hm,e⟩:=this
    exact⟨m',.inr hm,e⟩
theorem SO(bd:List Int)(q:QF)(o:List Int)(V:Nat):∀ (l:List Tm) (i:Nat) (n:Int),To V l (i+bd.length)=true->n∈ZK (bd.map (Xo o)) (W7 o q) l i->∃ m∈ZK bd q l i,n=Xo o m
 | [],_,_,_,h=>by simp[ZK] at h
 | t::r,i,n,hs,h=>by
   simp only[To,kJ] at hs
   simp only[ZK,mi] at h ⊢
   rcases h with h|h
   ·obtain⟨m,hm,e⟩:=G1 bd q o V t i n hs.1 h
    exact⟨m,.inl hm,e⟩
   ·obtain⟨m,hm,e⟩:=SO bd q o V r i n hs.2 h
    exact⟨m,.inr hm,e⟩
end
mutual
theorem Mp(bd:List Int)(q:QF)(o:List Int)(V:Nat):∀ (f:Fm) (i:Nat) (n:Int),scF V f (i+bd.length)=true->n∈YQ (bd.map (Xo o)) (W7 o q) f i->∃ m∈YQ bd q f i,n=Xo o m
 | .mk k s a t l,i,n,hs,h=>by
   simp only[scF,kJ] at hs
   obtain⟨⟨h1,h2⟩,h3⟩:=hs
   simp only[YQ,mi] at h ⊢
   by_cases hq:k=10\/k=11
   ·simp only[gZ hq] at h h2 ⊢
    have ha:a=[]:=by rcases hq with rfl|rfl<;>simpa using h3
    subst ha
    rcases h with h|h
    ·simp[ZK] at h
    ·obtain⟨m,hm,e⟩:=SR bd q o V l (i+1) n (by rw[<- h2];congr 1;omega) h
     exact⟨m,.inr hm,e⟩
   ·simp only[ig hq] at h h2 ⊢
    rcases h with h|h
    ·obtain⟨m,hm,e⟩:=SO bd q o V a i n h1 h
     exact⟨m,.inl hm,e⟩
    ·obtain⟨m,hm,e⟩:=SR bd q o V l i n h2 h
     exact⟨m,.inr hm,e⟩
theorem SR(bd:List Int)(q:QF)(o:List Int)(V:Nat):∀ (l:List Fm) (i:Nat) (n:Int),Tq V l (i+bd.length)=true->n∈Ye (bd.map (Xo o)) (W7 o q) l i->∃ m∈Ye bd q l i,n=Xo o m
 | [],_,_,_,h=>by simp[Ye] at h
 | t::r,i,n,hs,h=>by
   simp only[Tq,kJ] at hs
   simp only[Ye,mi] at h ⊢
   rcases h with h|h
   ·obtain⟨m,hm,e⟩:=Mp bd q o V t i n hs.1 h
    exact⟨m,.inl hm,e⟩
   ·obtain⟨m,hm,e⟩:=SR bd q o V r i n hs.2 h
    exact⟨m,.inr hm,e⟩
end
mutual
theorem G5(q:QF):∀ (t:Tm) (i:Nat),scT 0 t i=true->Wz [] q t i=[]
 | .mk k m s l,i,hs=>by
   simp only[scT,kJ] at hs
   simp only[Wz,SP q l _ hs.2,kh]
   have h1:=hs.1
   by_cases h2:k=2
   ·rw[gZ h2] at h1
    simp only[kJ,kD] at h1
    rw[ig (by rw[h2];decide),ig (fun h=>by omega)]
   ·rw[ig h2] at h1
    by_cases h4:k=4
    ·rw[gZ h4] at h1;simp at h1;omega
    ·rw[ig h4,ig (fun h=>h2 h.1)]
theorem SP(q:QF):∀ (l:List Tm) (i:Nat),To 0 l i=true->ZK [] q l i=[]
 | [],_,_=>rfl
 | t::r,i,hs=>by
   simp only[To,kJ] at hs
   simp only[ZK,G5 q t i hs.1,SP q r i hs.2,kh]
end
mutual
theorem Mq(q:QF):∀ (f:Fm) (i:Nat),scF 0 f i=true->YQ [] q f i=[]
 | .mk k s a t l,i,hs=>by
   simp only[scF,kJ] at hs
   obtain⟨⟨h1,h2⟩,h3⟩:=hs
   simp only[YQ,Oa q l _ h2,kh]
   by_cases hq:k=10\/k=11
   ·have ha:a=[]:=by rcases hq with rfl|rfl<;>simpa using h3
    subst ha;rfl
   ·rw[ig hq];exact SP q a i h1
theorem Oa(q:QF):∀ (l:List Fm) (i:Nat),Tq 0 l i=true->Ye [] q l i=[]
 | [],_,_=>rfl
 | t::r,i,hs=>by
   simp only[Tq,kJ] at hs
   simp only[Ye,Mq q t i hs.1,Oa q r i hs.2,kh]
end
mutual
theorem G9(bd:List Int)(q:QF):∀ (t:Tm) (i:Nat),(Wz bd q t i).length<=t.shape.nds
 | .mk k m s l,i=>by
   simp only[Wz,ii,Tm.shape,Ro.nds]
   have h:=SQ bd q l (if k=5 then i+1 else i)
   have h1:(if k=4 then(q m).toList else if k=2/\(i:Int)<=m then[atB bd i m] else[]).length<=1:=by
    split
    ·cases q m<;>simp
    ·split<;>simp
   omega
theorem SQ(bd:List Int)(q:QF):∀ (l:List Tm) (i:Nat),(ZK bd q l i).length<=cP (cK l)
 | [],_=>by simp[ZK]
 | t::r,i=>by
   simp only[ZK,ii,cK,cP]
   have:=G9 bd q t i
   have:=SQ bd q r i
   omega
end
mutual
theorem Qj(bd:List Int)(q:QF):∀ (f:Fm) (i:Nat),(YQ bd q f i).length<=f.shape.nds
 | .mk k s a t l,i=>by
   simp only[YQ,ii,Fm.shape,Ro.nds,ZL]
   have:=SQ bd q a (if k=10\/k=11 then i+1 else i)
   have:=Ob bd q l (if k=10\/k=11 then i+1 else i)
   omega
theorem Ob(bd:List Int)(q:QF):∀ (l:List Fm) (i:Nat),(Ye bd q l i).length<=cP (cR l)
 | [],_=>by simp[Ye]
 | t::r,i=>by
   simp only[Ye,ii,cR,cP]
   have:=Qj bd q t i
   have:=Ob bd q r i
   omega
end
theorem DW{l:List Int}{x y:Int}:y∈XJ l x↔y∈l\/y=x:=by
 unfold XJ
 by_cases h:l.contains x=true
 ·rw[gZ h];rw[mK] at h
  exact⟨.inl,fun k=>k.elim id (fun e=>e ▸ h)⟩
 ·rw[ig h];simp
theorem H3(l:List Int):∀ (acc:List Int) (y:Int),y∈l.foldl XJ acc↔y∈acc\/y∈l:=by
 induction l with
 | nil=>intro acc y;simp
 | cons a r ih=>intro acc y;rw[lQ,ih,DW];simp[or_assoc]
theorem OG(l:List Int):∀ (acc:List Int),(l.foldl XJ acc).length<=acc.length+l.length:=by
 induction l with
 | nil=>intro acc;simp
 | cons a r ih =>
   intro acc
   rw[lQ]
   have:=ih (XJ acc a)
   have:=Pt acc a
   rw[ij];omega
theorem Oi{bd:List Int}{q:QF}{f:Fm}{n:Int}:n∈Yz bd q f↔n∈YQ bd q f 0:=by
 unfold Yz;rw[H3];simp
theorem Hc(bd:List Int)(q:QF)(f:Fm):(Yz bd q f).length<=f.shape.nds:=by
 have:=OG (YQ bd q f 0) []
 have:=Qj bd q f 0
 unfold Yz;simp at *;omega
theorem Cv{bd:List Int}{q:QF}{f:Fm}{V:Nat}(hs:scF V f bd.length=true){n:Int}(h:n∈YQ (bd.map (Xo (Yz bd q f))) (W7 (Yz bd q f) q) f 0):0<=n/\n<(Yz bd q f).length:=by
 obtain⟨m,hm,rfl⟩:=Mp bd q _ V f 0 n (by simpa using hs) h
 obtain⟨i,e,hl,_⟩:=M8 (Oi.2 hm)
 rw[e];omega
structure POk (V D N B:Nat) (q:QF) (lim:Int) (p:Pm):Prop where
 sc:scF V p.form p.bound.length=true
 shp:Xy p.form=true
 dp:dpB p.form.shape D=false
 nds:p.form.shape.nds<=N
 bl:p.bound.length+3 * p.form.shape.nds<=B
 sl:∀ n∈YQ p.bound q p.form 0,0<=n/\n<lim
theorem POk.wide{V D N B:Nat}{q:QF}{a b:Int}{p:Pm}(h:POk V D N B q a p)(hab:a<=b):POk V D N B q b p :=
 { h with sl:=fun n hn=>by have:=h.sl n hn;omega }
structure DOk (V D N B E:Nat) (q:QF) (d:Dr):Prop where
 ante:∀ p∈d.ante,POk V D N B q (E+d.vars.length:Nat) p
 head:To V (RR d.head) d.bound.length=true
 hn:d.head.shape.nds<=N
 len:d.len<=B
theorem Dr.bl_len(d:Dr):d.bound.length<=d.len:=by unfold Dr.len;omega
theorem A5(V D N B E:Nat)(q:QF):∀ (f:Fm) (d:Dr),scF V f d.bound.length=true->Xy f=true->dpB f.shape D=false->f.shape.nds<=N->d.len+3 * f.shape.nds<=B ->
 (∀ n∈YQ d.bound q f 0,0<=n/\n<((E+d.vars.length:Nat):Int))->(∀ p∈d.ante,POk V D N B q (E+d.vars.length:Nat) p)->∀ d'∈drS f E d,DOk V D N B E q d':=by
 intro f
 induction f using eg with|h k s a t l ih=>?_
 intro d hsc hs hd hn hB hsl hP d' hd'
 have hlen:=X6 hs
 have hm:=X5 hs
 have hdk:=NJ hd
 simp only[drS] at hd'
 simp only[scF,kJ] at hsc
 obtain⟨⟨hs1,hs2⟩,hs3⟩:=hsc
 by_cases h10:k=10
 ·subst h10
  obtain⟨g,rfl⟩:=X8 hlen
  have h2:=Fm.nds_kid (k:=10) (s:=s) (a:=a) (t:=t) (l:=[g]) (x:=g) xf
  simp only[iE,EX] at hd'
  rw[gZ (.inl rfl)] at hs2
  refine ih g xf _ ?_ (hm g xf) (hdk g xf) xh ?_ ?_ ?_ d' hd'
  ·simpa[Tq] using hs2
  ·simp only[Dr.len,ii,ij,im] at hB ⊢;omega
  ·intro n hn2
   simp only[ii,ij,im] at hn2 ⊢
   rcases ST _ _ _ _ _ _ hn2 with e|e
   ·rw[e];omega
   ·have:=hsl n (by simp only[YQ,Ye,gZ (Or.inl rfl:(10:Int)=10\/(10:Int)=11),mi];exact .inr (.inl e))
    omega
  ·intro p hp
   exact(hP p hp).wide yv
 ·rw[ig h10] at hd'
  by_cases h5:k=5
  ·subst h5
   obtain⟨g,h,rfl⟩:=XI hlen
   have h3:=ey (k:=5) (s:=s) (a:=a) (t:=t) (x:=g) (y:=h)
   simp only[iE,NG,mi] at hd'
   rw[ig xj] at hs2
   simp only[Tq,kJ] at hs2
   simp only[YQ,Ye,mi,ig (by decide:¬ ((5:Int)=10\/(5:Int)=11))] at hsl
   rcases hd' with hd'|hd'
   ·exact ih g xf { d with path:=d.path++[1] } hs2.1 (hm g xf) (hdk g xf) xh yG (fun n hn2=>hsl n (.inr (.inl hn2))) hP d' hd'
   ·exact ih h xf { d with path:=d.path++[2] } hs2.2.1 (hm h xf) (hdk h xf) xh yG (fun n hn2=>hsl n (.inr (.inr (.inl hn2)))) hP d' hd'
  ·rw[ig h5] at hd'
   by_cases h7:k=7\/k=8
   ·obtain⟨g,h,rfl⟩:∃ g h,l=[g,h]:=by rcases h7 with rfl|rfl<;>exact XI hlen
    have h3:=ey (k:=k) (s:=s) (a:=a) (t:=t) (x:=g) (y:=h)
    have hnq:¬ (k=10\/k=11):=fun e=>by omega
    simp only[gZ h7,IA] at hd'
    rw[ig hnq] at hs2
    simp only[Tq,kJ] at hs2
    simp only[YQ,Ye,mi,ig hnq] at hsl
    refine ih h xf { d with path:=d.path++[if k=8 then 5 else 4],ante:=d.ante++[⟨g,d.bound,decide (k=8)⟩] } hs2.2.1 (hm h xf) (hdk h xf) xh yG (fun n hn2=>hsl n (.inr (.inr (.inl hn2)))) (fun p hp=>?_) d' hd'
    rcases List.mem_append.1 hp with hp|hp
    ·exact hP p hp
    ·rw[mW] at hp
     subst hp
     exact⟨hs2.1,hm g xf,hdk g xf,by dsimp only;omega,by have:=d.bl_len;dsimp only;omega,fun n hn2=>hsl n (.inr (.inl hn2))⟩
   ·simp only[ig h7,mW] at hd'
    subst hd'
    exact⟨hP,hs1,hn,by simp only[Dr.len] at hB ⊢;omega⟩
end Go.Vx
end
section
namespace Go.Vx
open Go.Proofs Go.RowKit
theorem bI{bm bs:Nat}{gv gv' vt vl:AV}{S S':Store}(h:Kp (mO bm gv) (mO bm gv') S S'){k:Nat}(hx:(S.get k).isSome=true)(hk:¬ sO bm bs gv vt vl k):¬ sO bm bs gv' vt vl k:=fun e=>by
 obtain⟨x,hx⟩:=Option.isSome_iff_exists.1 hx
 rcases e with e|e
 ·exact(h k x hx (fun a=>hk (.inl a))).2 e
 ·exact hk (.inr e)
theorem Kp.up{bm bs:Nat}{gv gv' vt vl:AV}{S S':Store}(h:Kp (mO bm gv) (mO bm gv') S S'):Kp (sO bm bs gv vt vl) (sO bm bs gv' vt vl) S S':=fun k x a b =>
 ⟨(h k x a (fun e=>b (.inl e))).1,bI h (by rw[a];rfl) b⟩
def NB(O:Nat->Prop)(S:Store)(b:Nat):Prop:=∀ j x,S.get j=some x->¬ O j->j≠b
theorem Kp.nb{O O1:Nat->Prop}{S S2:Store}{b:Nat}(k:Kp O O1 S S2)(hf:Zm S2 b):NB O S b:=fun j x a c e=>by
 have:=(k j x a c).1
 rw[e,Zj hf] at this;cases this
theorem Kp.setN{O O':Nat->Prop}{S S':Store}{b:Nat}(h:Kp O O' S S')(hb:NB O S b)(x:AObj):Kp O O' S (S'.set b x):=fun k y h1 h2=>by
 obtain⟨a,c⟩:=h k y h1 h2
 exact⟨by rw[Za (hb k y h1 h2)];exact a,c⟩
structure FK (σ:Store) (O0:Nat->Prop) (S0:Store) (bm bs br bo:Nat) (zs:List AV) (gv vt vl:AV) (st:GSt) (cs:List AV) (T:Nat->Prop) (S:Store):Prop where
 sk:SK σ bm bs gv vt vl st S
 go:S.get bo=some (.cells cs)
 gr:S.get br=some (.cells zs)
 kp:Kp O0 (Or (sO bm bs gv vt vl) T) S0 S
 oo:¬ sO bm bs gv vt vl bo
 or:¬ sO bm bs gv vt vl br
 fo:Zm σ bo
 fo0:Zm S0 bo
 fr:Zm σ br
 fr0:Zm S0 br
 nro:br≠bo
section
variable {σ:Store} {O0:Nat->Prop} {S0:Store} {bm bs br bo:Nat} {zs:List AV} {gv vt vl:AV} {st:GSt} {cs:List AV} {T:Nat->Prop} {S:Store}
theorem FK.has(h:FK σ O0 S0 bm bs br bo zs gv vt vl st cs T S):Has σ S:=h.sk.mkr.has
theorem FK.cons(h:FK σ O0 S0 bm bs br bo zs gv vt vl st cs T S){b:Nat}(hb:Zm S b)(x:AObj):FK σ O0 S0 bm bs br bo zs gv vt vl st cs T ((b,x)::S) :=
 { h with sk:=h.sk.cons hb x,go:=by rw[Zg hb (by rw[h.go];rfl)];exact h.go,gr:=by rw[Zg hb (by rw[h.gr];rfl)];exact h.gr,kp:=h.kp.cons hb x }
theorem FK.goal(h:FK σ O0 S0 bm bs br bo zs gv vt vl st cs T S){gv' vt' vl':AV}{st':GSt}{S':Store}(hs:SK σ bm bs gv' vt' vl' st' S')(k:Kp (sO bm bs gv vt vl) (sO bm bs gv' vt' vl') S S'):FK σ O0 S0 bm bs br bo zs gv' vt' vl' st' cs T S':=by
 obtain⟨a1,a2⟩:=k _ _ h.go h.oo
 obtain⟨b1,b2⟩:=k _ _ h.gr h.or
 exact{ h with sk:=hs,go:=a1,gr:=b1,oo:=a2,or:=b2,kp:=h.kp.call k }
theorem FK.app(h:FK σ O0 S0 bm bs br bo zs gv vt vl st cs T S){v v':AV}{sz:Nat}{es:List (List AV)}{T':Nat->Prop}{S':Store}(hv:LV σ S v sz es)(ht:Tn [] v v' S S')(hH:Has σ S')(hT:∀ k,Ym v=some k->T k)(hT':∀ k,T' k->T k\/Ym v'=some k) :
 FK σ O0 S0 bm bs br bo zs gv vt vl st cs T' S' :=
 have hk:Kp O0 (Or (sO bm bs gv vt vl) T') S0 S':=fun k x a b=>by
  exact qP
 { h with sk:=h.sk.kc (ht.kc hv) hH,go:=ht.kc hv _ _ h.go,gr:=ht.kc hv _ _ h.gr,kp:=hk }
theorem FK.put(h:FK σ O0 S0 bm bs br bo zs gv vt vl st cs T S)(cs':List AV):FK σ O0 S0 bm bs br bo zs gv vt vl st cs' T (S.set bo (.cells cs')) :=
 { h with sk:=h.sk.set h.oo h.fo _,go:=Zd h.go,gr:=by rw[Za h.nro];exact h.gr,kp:=h.kp.set (.inr h.fo0) _ }
theorem FK.tip(h:FK σ O0 S0 bm bs br bo zs gv vt vl st cs T S){T':Nat->Prop}(hT:∀ k,T' k->T k):FK σ O0 S0 bm bs br bo zs gv vt vl st cs T' S :=
 { h with kp:=h.kp.imp (fun _ _ e=>e) (fun k e=>e.imp id (hT k)) }
end
theorem LV.fk{σ:Store}{bm bs:Nat}{gv vt vl gv' vt' vl' v:AV}{st:GSt}{S S':Store}{sz:Nat}{es:List (List AV)}(h:LV σ S v sz es)(hs:SK σ bm bs gv vt vl st S)(k:Kp (sO bm bs gv vt vl) (sO bm bs gv' vt' vl') S S'):LV σ S' v sz es:=h.kp k hs.own
theorem CC:∀ t:Ro,1<=t.nds
 | .mk l=>by simp only[Ro.nds];omega
theorem FX(l:List Tm):l.length<=cP (cK l):=by
 induction l with
 | nil=>simp
 | cons a r ih =>
   simp only[cK,cP,ij]
   have:=CC a.shape
   omega
def Wi{α β σ:Type}(f:α->σ->nM (β×σ))(done:List β)(l:List α)(s:σ):nM (List β×σ):=match YS f l s with
 | none=>none
 | some (bs,s2)=>some (done++bs,s2)
theorem WP{α β σ:Type}(f:α->σ->nM (β×σ))(l:List α)(s:σ):YS f l s=Wi f [] l s:=by
 unfold Wi
 cases YS f l s with
 | none=>rfl
 | some p=>rfl
theorem V8{α β σ:Type}(f:α->σ->nM (β×σ))(done:List β)(s:σ):Wi f done [] s=some (done,s):=by simp[Wi,YS]
theorem WB{α β σ:Type}{f:α->σ->nM (β×σ)}{done:List β}{a:α}{r:List α}{s s1:σ}{b:β}(h:f a s=some (b,s1)):Wi f done (a::r) s=Wi f (done++[b]) r s1:=by
 simp only[Wi,YS,h]
 cases YS f r s1 with
 | none=>rfl
 | some p=>simp
theorem Vq{α β σ:Type}{f:α->σ->nM (β×σ)}{done:List β}{a:α}{r:List α}{s:σ}(h:f a s=none):Wi f done (a::r) s=none:=by simp only[Wi,YS,h]
theorem Re{α β σ:Type}{f:α->σ->nM (β×σ)}(μ:σ->Nat)(h:∀ a s b s',f a s=some (b,s')->μ s<=μ s'):∀ (l:List α) (s:σ) (bs:List β) (s':σ),YS f l s=some (bs,s')->μ s<=μ s':=by
 intro l
 induction l with
 | nil=>intro s bs s' e;simp only[YS,jq,lE] at e;rw[e.2];exact kO _
 | cons a r ih =>
   intro s bs s' e
   simp only[YS] at e
   split at e
   ·cases e
   ·rename_i b s1 h1
    split at e
    ·cases e
    ·rename_i bs2 s2 h2
     simp only[jq,lE] at e
     rw[<- e.2]
     exact lj (h _ _ _ _ h1) (ih _ _ _ h2)
def GQ(G:GoalF):Prop:=∀ f bd qf st x st',G f bd qf st=some (x,st')->st.types.length<=st'.types.length/\st.m.gs.length<=st'.m.gs.length/\(st.types.length<=60000->st'.types.length<=60000)
theorem R9{m m':MSt}{k:Int}(h:Uf m k=some m'):m'.gs=m.gs:=by
 unfold Uf at h
 split at h
 ·injection h with h;rw[<- h]
 ·cases h
theorem Sv{G:GoalF}(hG:GQ G){env:List Ty}{q:QF}{d:Dr}{m:MSt}{c:Zr}{m':MSt}(h:YU G env q d m=some (c,m')):m.gs.length<=m'.gs.length:=by
 unfold YU at h
 split at h
 ·cases h
 ·rename_i m1 h1
  split at h
  ·cases h
  ·rename_i gl st h2
   split at h
   ·cases h
   ·rename_i m2 h3
    simp only[jq,lE] at h
    have a1:=R9 h1
    have a3:=R9 h3
    have a2:=Re (fun(st:GSt)=>st.m.gs.length) (fun a s b s' e=>(hG _ _ _ _ _ _ e).2.1) _ _ _ _ h2
    dsimp only at a2
    rw[<- h.2,a3,<- a1]
    exact a2
def GlR(σ:Store)(bm bs:Nat)(gv vt vl:AV)(S:Store)(o:nM (Zi×GSt)):ZE->Store->Prop:=fun r S'=>match o with
 | some (x,st')=>r=.ret (.agg x.emb)/\∃ gv' vt' vl',SK σ bm bs gv' vt' vl' st' S'/\Kp (sO bm bs gv vt vl) (sO bm bs gv' vt' vl') S S'
 | none=>r=.pan (Y5 2)/\Has σ S'/\Pn (sO bm bs gv vt vl) S S'
def GlC(σ:Store)(bm:Nat)(D:Nat)(G:GoalF):Prop:=∀ (f:Fm) (bs:Nat) (bd:List Int) (mq:nM Nat) (qf:QF) (V:Nat) (gv vt vl:AV) (st:GSt) (S:Store),SK σ bm bs gv vt vl st S->QM S mq qf->(mq=none->V=0)->scF V f bd.length=true->Xy f=true->dpB f.shape D=false ->
 f.shape.nds<=4000->bd.length+3 * f.shape.nds<=50000->(∀ n∈YQ bd qf f 0,0<=n/\n<(st.types.length:Int))->st.types.length<=60000 ->
 Zh nC 67 [.val (.pointer (some ⟨bs,0,none⟩)),.agg f.emb,.agg [.list .none 1 (Zu bd),.val (.map mq)]] S (GlR σ bm bs gv vt vl S (G f bd qf st))
def ClR(σ:Store)(bm:Nat)(gv:AV)(S:Store)(o:nM (Zr×MSt)):ZE->Store->Prop:=fun r S'=>match o with
 | some (c,m')=>r=.ret (.agg c.emb)/\∃ gv',MK σ bm gv' m' S'/\Kp (mO bm gv) (mO bm gv') S S'
 | none=>r=.pan (Y5 2)/\Has σ S'/\Pn (mO bm gv) S S'
def GrR(σ:Store)(bm:Nat)(gv:AV)(S:Store)(o:nM (Int×List Int×MSt)):ZE->Store->Prop:=fun r S'=>match o with
 | some (n,outer,m')=>r=.ret (.tup [vi n,.list .none 1 (Zu outer)])/\∃ gv',MK σ bm gv' m' S'/\Kp (mO bm gv) (mO bm gv') S S'
 | none=>r=.pan (Y5 2)/\Has σ S'/\Pn (mO bm gv) S S'
theorem MW.base{σ S0 S:Store}{sz:Nat}{v:AV}{es:List (List AV)}(h:MW S0 sz S v es)(k:Has σ S0):MW σ sz S v es:=by
 rcases h with h|⟨c,cap,rest,h1,h2,h3,h4,h5⟩
 ·exact .inl h
 ·exact .inr ⟨c,cap,rest,h1,h2,h3,h4,k.fresh h5⟩
theorem MK.at{σ S S':Store}{bm:Nat}{gv:AV}{m:MSt}(h:MK σ bm gv m S)(k:∀ b c,mO bm gv b->S.get b=some (.cells c)->S'.get b=some (.cells c))(hH:Has σ S'):MK σ bm gv m S' :=
 { h with gm:=k _ _ (.inl rfl) h.gm,gw:=by obtain⟨es',hw,he⟩:=h.gw;exact⟨es',hw.cell fun b c hb hc=>k b c (.inr hb) hc,he⟩,has:=hH }
theorem Xq.aggl{cs cs':List AV}{σ σ':Store}(h0:∀ w,Zq σ w->Zq σ' w/\Ev σ w σ' w)(hl:cs.length=cs'.length)(h:∀ (i:Nat) (c c':AV),cs[i]?=some c->cs'[i]?=some c'->Xq c σ c' σ'):Xq (.agg cs) σ (.agg cs') σ':=by
 intro w v ho hv
 obtain⟨o1,e1⟩:=h0 w ho
 refine⟨?_,o1,e1⟩
 cases hv with
 | agg _ vs hl2 h2 =>
   refine .agg cs' vs xh (fun i c' v hc' hv=>?_)
   exact rM
def Shl(σ σ':Store):List AV->List AV->Prop
 | [],[]=>True
 | a::r,b::s=>Xq a σ b σ'/\Shl σ σ' r s
 | _,_=>False
theorem Shl.at{σ σ':Store}:∀ {r s:List AV},Shl σ σ' r s->r.length=s.length/\∀ (i:Nat) (c c':AV),r[i]?=some c->s[i]?=some c'->Xq c σ c' σ'
 | [],[],_=>⟨rfl,by simp⟩
 | a::r,b::s,h=>by
   obtain⟨h1,h2⟩:=Shl.at h.2
   refine⟨by simp[h1],fun i c c' hc hc'=>?_⟩
   cases i with
   | zero=>simp at hc hc';subst hc;subst hc';exact h.1
   | succ i=>exact h2 i c c' (by simpa using hc) (by simpa using hc')
 | [],_::_,h=>h.elim
 | _::_,[],h=>h.elim
theorem Xq.wk{a b:AV}{σ σ':Store}(h:Wk a b)(h0:∀ w,Zq σ w->Zq σ' w/\Ev σ w σ' w):Xq a σ b σ':=fun w x ho hv =>
 ⟨V.ev (h _ _ _ hv) (h0 w ho).2,(h0 w ho).1,(h0 w ho).2⟩
open Go.Proofs Go.RowKit
abbrev zC:List AV:=[.list .full 0 [],.list .full 0 [],.list .full 0 [],.val (.string { data:=#[] }),.list .full 0 [],.list .full 0 [],.list .full 0 []]
theorem KB(G:GoalF)(σ:Store)(bm D:Nat)(hG:GlC σ bm D G)(hGm:GQ G)(env:List Ty)(qf:QF)(mq:nM Nat)(V:Nat)(d:Dr)(gv:AV)(m:MSt)(S:Store)(h:MK σ bm gv m S)(hQ:QM S mq qf)(hm:mq=none->V=0)(hd:DOk V D 4000 50000 env.length qf d)(he:env.length<=4000) :
 Zh nC 139 [.val (.pointer (some ⟨bm,0,none⟩)),.list .none 2 (cI env),.agg (d.emb mq)] S (ClR σ bm gv S (YU G env qf d m)):=by
 obtain⟨path,vars,ante,⟨hk,hs,ha,⟨hts,htl⟩,hl⟩,bound⟩:=d
 have hP:=hd.ante
 have hH:=hd.head
 have hN:=hd.hn
 have hL:=hd.len
 simp only[Dr.len,RR] at hP hH hN hL
 have hlen:=FX ha
 have hN2:=hN
 simp only[Fm.shape,Ro.nds,ZL] at hN2
 have hgw:=h.gw
 obtain⟨es',hgw,-⟩:=hgw
 have g1:=hgw.one.1
 have hn0:=h.n0
 have hn1:=h.n1
 simp only[Dr.emb,Dr.cs,cM,kE,kF]
 refine Zb [24] [(7,5,0),(12,9,10),(18,8,9)] Tryz.func139 rfl xy ?_;rw[Tryz.ntmps139,Tryz.results139]
 refine uw ?_
 intro b6 hb6
 have h1:=h.kc (KC.cons hb6 (.cells zC)) (h.has.cons _)
 have k1:=(Kp.refl (mO bm gv) S).cons hb6 (.cells zC)
 have f60:Zm S b6:=hb6
 obtain⟨S1,hS1⟩:∃ S1:Store,S1=(b6,AObj.cells zC)::S:=⟨_,rfl⟩
 have e6:S1.get b6=some (.cells zC):=by rw[hS1];exact Ze _ _ _
 rw[<- hS1] at h1 k1 ⊢
 clear hS1 hb6
 refine uw ?_
 refine(Rb bm gv m.n 1 S1 g1 hn0 xh xh xh h1.gm).mono ?_
 rintro r S2 ⟨rfl,(⟨hc,rfl⟩|⟨hc,rfl⟩)⟩
 rotate_left
 ·have eN:YU G env qf ⟨path,vars,ante,.mk hk hs ha (.mk hts htl) hl,bound⟩ m=none:=by simp only[YU,Uf,ig (show ¬ m.n+1<=8000 by omega)]
  rw[eN]
  refine uw ?_
  exact .mk (.refl _) ⟨rfl,h1.has.set h1.fm _,(k1.trans (h1.kpc _)).pn0⟩
 have h2:=h1.count (k:=1) xh hc
 have k2:=k1.trans (h1.kpc (.cells [gv,vi (m.n+1)]))
 have e6':(S1.set bm (.cells [gv,vi (m.n+1)])).get b6=some (.cells zC):=by rw[Za (Zv h.gm f60).symm];exact e6
 obtain⟨S2,hS2⟩:∃ S2:Store,S2=S1.set bm (.cells [gv,vi (m.n+1)]):=⟨_,rfl⟩
 rw[<- hS2] at h2 k2 e6' ⊢
 clear h1 k1 e6 hS2
 refine uw ?_
 refine⟨rfl,(Ja [env,vars] xz xf S2).nd.mono ?_⟩
 rintro r S3 ⟨⟨v,rfl,hv,hH3⟩,hnd3⟩
 have ev:[env,vars].flatten=env++vars:=by simp
 rw[ev] at hv
 have hv0:=hv
 have hv:=hv.base h2.has
 have n6v:blk v≠some b6:=fun e=>by have:=(hv0.at e).2;rw[Zj this] at e6';cases e6'
 have hs3:=hH3.sees hnd3
 have h3:=h2.kc (fun k c hk=>hs3 _ _ hk) (fun p hp=>hH3 p (h2.has p hp))
 have k3:Kp (mO bm gv) (Or (mO bm gv) (Bk v)) S S3:=fun k x a b=>by
  obtain⟨p,q⟩:=k2 k x a b
  exact⟨hs3 _ _ p,fun e=>e.elim q (fun e=>by have:=(hv0.at e).2;rw[Zj this] at p;cases p)⟩
 have e63:=hs3 _ _ e6'
 have v1:=hv.one.1
 have v2:=hv.one.2
 have nvO:∀ b,blk v=some b->¬ mO bm gv b:=fun b hb e=>by
  obtain⟨c,hc'⟩:=h2.own b e
  rw[Zj (hv0.at hb).2] at hc';cases hc'
 clear hH3 hs3 h2 k2 e6' hnd3 hv0
 try simp only[go_sem,seval,v1,v2]
 intro b24 hb24
 have h4:=h3.kc (KC.cons hb24 (.cells [.val (.pointer (some ⟨bm,0,none⟩)),v,.list .full 0 []])) (h3.has.cons _)
 have k4:=k3.cons hb24 (.cells [.val (.pointer (some ⟨bm,0,none⟩)),v,.list .full 0 []])
 obtain⟨S4,hS4⟩:∃ S4:Store,S4=(b24,AObj.cells [.val (.pointer (some ⟨bm,0,none⟩)),v,.list .full 0 []])::S3:=⟨_,rfl⟩
 have e24:S4.get b24=some (.cells [.val (.pointer (some ⟨bm,0,none⟩)),v,.list .full 0 []]):=by rw[hS4];exact Ze _ _ _
 have e64:S4.get b6=some (.cells zC):=by rw[hS4,Zg hb24 (by rw[e63];rfl)];exact e63
 have hv4:MW σ 2 S4 v (cI (env++vars)):=by rw[hS4];exact hv.cell fun b c _ hc=>KC.cons hb24 _ _ _ hc
 have n24:∀ b,(S3.get b).isSome=true->b≠b24:=fun b hb e=>by rw[e,Zj hb24] at hb;cases hb
 have sk4:SK σ bm b24 gv v (.list .full 0 []) ⟨⟨m.gs,m.n+1⟩,env++vars,[]⟩ S4:=by
  have a1:∀ b,blk v=some b->(S3.get b).isSome=true:=fun b hb=>by obtain⟨⟨c,hc⟩,_⟩:=hv.at hb;rw[hc];rfl
  have a2:∀ b,mO bm gv b->(S3.get b).isSome=true:=fun b hb=>by obtain⟨c,hc⟩:=h3.own b hb;rw[hc];rfl
  rw[<- hS4] at h4
  exact { mkr:=h4,gs:=e24,wt:=hv4,wl:=.inl ⟨rfl,0,rfl⟩,fs:=h3.has.fresh hb24,nsm:=(n24 _ (a2 _ (.inl rfl))).symm,ngs:=fun e=>n24 _ (a2 _ (.inr e)) rfl,ntm:=fun e=>nvO _ e (.inl rfl),nts:=fun e=>n24 _ (a1 _ e) rfl,
          nlm:=fun e=>by simp[blk] at e,nls:=fun e=>by simp[blk] at e,ngt:=fun b e e2=>nvO b e2 (.inr e),ngl:=fun b _ e=>by simp[blk] at e,ntl:=fun b _ e=>by simp[blk] at e,tl:=by dsimp only;rw[List.length_append];omega,ll:=by simp }
 have kp4:Kp (mO bm gv) (sO bm b24 gv v (.list .full 0 [])) S S4:=fun k x a b=>by
  rw[<- hS4] at k4
  obtain⟨p,q⟩:=k4 k x a b
  obtain⟨p3,-⟩:=k3 k x a b
  refine⟨p,fun e=>?_⟩
  rcases e with e|e|e|e
  ·exact q (.inl e)
  ·exact n24 k (by rw[p3];rfl) e
  ·exact q (.inr e)
  ·simp[blk] at e
 rw[<- hS4]
 have n64:=n24 b6 (by rw[e63];rfl)
 have o6:¬ sO bm b24 gv v (.list .full 0 []) b6:=fun e=>by
  rcases e with e|e|e|e
  ·obtain⟨c,hc⟩:=h.own b6 e;rw[Zj f60] at hc;cases hc
  ·exact n64 e
  ·exact n6v e
  ·simp[blk] at e
 clear hS4 h4 k4 h3 k3 e63 hv hb24 n24 nvO
 refine uw ?_
 intro b8 hb8
 have hF:FK σ (mO bm gv) S bm b24 b6 b8 zC gv v (.list .full 0 []) ⟨⟨m.gs,m.n+1⟩,env++vars,[]⟩ [.list .full 0 [],.list .full 0 [],.list .none 1 (Zu path),vs hs,.list .full 0 [],.list .full 0 [],.list .full 0 []] (fun _=>False) ((b8,.cells [.list .full 0 [],.list .full 0 [],.list .none 1 (Zu path),vs hs,.list .full 0 [],.list .full 0 [],.list .full 0 []])::S4) :=
  { sk:=sk4.cons hb8 _,go:=Ze _ _ _,gr:=by rw[Zg hb8 (by rw[e64];rfl)];exact e64,kp:=(kp4.cons hb8 _).imp (fun _ _ e=>e) (fun _ e=>e.elim id False.elim),oo:=(fun e=>by obtain⟨c,hc⟩:=sk4.own b8 e;rw[Zj hb8] at hc;cases hc),or:=o6,fo:=sk4.mkr.has.fresh hb8,fo0:=kp4.fresh (fun b hb=>by obtain⟨c,hc⟩:=sk4.mkr.own b hb;rw[hc];rfl) hb8,fr:=h.has.fresh f60,fr0:=f60,nro:=Zv e64 hb8 }
 clear sk4 e24 e64 hv4 kp4 hb8 v1 v2 o6 n64 n6v hgw g1
 refine uw ?_
 refine Zp (mu:=[24]) (dr:=[(7,5,0),(12,9,10),(18,8,9)]) [10,34,35,36,37,38,39,40,41,42,43,44,45] (fun x:Nat×AV×Store=>[(34,vi x.1)]) (fun x=>x.2.2)
  (fun x=>x.1<=vars.length/\FK σ (mO bm gv) S bm b24 b6 b8 zC gv v (.list .full 0 []) ⟨⟨m.gs,m.n+1⟩,env++vars,[]⟩ [x.2.1,.list .full 0 [],.list .none 1 (Zu path),vs hs,.list .full 0 [],.list .full 0 [],.list .full 0 []] (Tp x.2.1) x.2.2/\LV σ x.2.2 x.2.1 2 (cI (vars.take x.1))) (fun x=>vars.length-x.1)
  (0,.list .full 0 [],_) xy ⟨by omega,hF.tip (fun k e=>by simp[Tp,Ym] at e),LV.nil _ _ _⟩ ⟨.refl _,trivial⟩ (.refl _) ?_
 clear hF
 rintro⟨i,va,T⟩ ⟨hi,hF,hL0⟩
 dsimp only at hi hF hL0
 refine uB fun x0=>?_
 by_cases c:i<vars.length
 ·have x1:((i:Int)<(vars.length:Int))=True:=iS xh
  obtain⟨a,ha⟩:∃ t,vars[i]?=some t:=⟨vars[i],iO c⟩
  have gt:(cI vars)[i]?=some a.emb:=by rw[di,jp,ha];rfl
  refine uE fun hw=>?_
  have htk:cI (vars.take (i+1))=cI (vars.take i)++[a.emb]:=by simp[di,jh,ha]
  have hcp:=OQ a
  obtain⟨sa,la⟩:=a
  simp only[cQ] at gt htk hcp
  try simp only[go_sem,seval,cG,x0,x1,gt,iT,iF,jq,jr,jt]
  intro b10 hb10
  obtain⟨U,hU⟩:∃ U:Store,U=(b10,AObj.cells [vs sa,.list .none 2 (cI la)])::T:=⟨_,rfl⟩
  have u10:U.get b10=some (.cells [vs sa,.list .none 2 (cI la)]):=by rw[hU];exact Ze _ _ _
  have uF:=hF.cons hb10 (.cells [vs sa,.list .none 2 (cI la)])
  have uL:=hL0.cons hb10 (.cells [vs sa,.list .none 2 (cI la)])
  rw[<- hU] at uF uL ⊢
  clear hU hb10 hF hL0
  have u8:=uF.go
  try simp only[go_sem,seval,u8,u10,uL.one,uL.cells]
  refine hcp.head ?_
  try simp only[go_sem,seval,u8,u10,uL.one,uL.cells]
  refine⟨rfl,uL.appT rfl xj (by rw[cG,ip];simp only[ij,im];omega) rfl xf uF.has (fun v' S' hv' hT' hS'=>?_)⟩
  have wF:=uF.app (T':=Tp v') uL hT' hS' (fun _ e=>e) (fun _ e=>.inr e)
  have w8:=wF.go
  try simp only[go_sem,seval,w8,hw,hv'.one,hv'.cells]
  exact .mk (i+1,v',S'.set b8 (.cells [v',.list .full 0 [],.list .none 1 (Zu path),vs hs,.list .full 0 [],.list .full 0 [],.list .full 0 []])) ⟨by omega,wF.put _,by dsimp only;rw[htk];exact hv'.set w8 xf _⟩ xX ⟨.refl _,trivial⟩ yS (.refl _)
 have x1:((i:Int)<(vars.length:Int))=False:=iU xh
 rw[show vars.take i=vars from iW xh] at hL0
 have wa:=hL0.wk
 have va1:=hL0.one
 have va2:=hL0.cells
 have hF:=hF.tip (T':=fun k=>Tp (.list .full 0 []) k\/Tp (.list .full 0 []) k) (fun k e=>by simp[Tp,Ym] at e)
 try simp only[go_sem,seval,cG,x0,x1,iV]
 clear hL0 c x0 x1 hi
 obtain⟨st0,hst0⟩:∃ st0:GSt,st0=⟨⟨m.gs,m.n+1⟩,env++vars,[]⟩:=⟨_,rfl⟩
 have hX0:=WP (fun(p:Pm) st=>G p.form p.bound qf st) ante st0
 have hty0:env.length+vars.length<=st0.types.length/\st0.types.length<=60000:=by rw[hst0];dsimp only;rw[List.length_append];omega
 rw[<- hst0] at hF
 have hCl:YU G env qf ⟨path,vars,ante,.mk hk hs ha (.mk hts htl) hl,bound⟩ m=match YS (fun(p:Pm) st=>G p.form p.bound qf st) ante st0 with
  | none=>none
  | some (gl,st)=>match Uf st.m (cP (cK ha)) with
    | none=>none
    | some m2=>some (⟨vars,st.locals,path,hs,Xx bound qf ha 0,gl,ante.map Pm.last⟩,m2):=by rw[hst0];simp only[YU,Uf,gZ hc,RR];rfl
 clear hst0
 refine Zp (mu:=[24]) (dr:=[(7,5,0),(12,9,10),(18,8,9)]) [12,49,50,51,52,53,54,55,56,57,58,59,60,61,62,63,64,65,66,67,68,69,70,71] (fun x:Nat×AV×AV×(AV×AV×AV)×GSt×List Zi×Store=>[(49,vi x.1)]) (fun x=>x.2.2.2.2.2.2)
  (fun x=>x.1<=ante.length/\FK σ (mO bm gv) S bm b24 b6 b8 zC x.2.2.2.1.1 x.2.2.2.1.2.1 x.2.2.2.1.2.2 x.2.2.2.2.1 [va,.list .full 0 [],.list .none 1 (Zu path),vs hs,.list .full 0 [],x.2.1,x.2.2.1] (fun k=>Tp x.2.1 k\/Tp x.2.2.1 k) x.2.2.2.2.2.2 /\
   LV σ x.2.2.2.2.2.2 x.2.1 9 (cY x.2.2.2.2.2.1)/\LV σ x.2.2.2.2.2.2 x.2.2.1 1 (Uv ((ante.take x.1).map Pm.last))/\Apt x.2.1 x.2.2.1/\YS (fun(p:Pm) st=>G p.form p.bound qf st) ante st0=Wi (fun(p:Pm) st=>G p.form p.bound qf st) x.2.2.2.2.2.1 (ante.drop x.1) x.2.2.2.2.1/\x.2.2.2.2.2.1.length=x.1/\env.length+vars.length<=x.2.2.2.2.1.types.length/\x.2.2.2.2.1.types.length<=60000) (fun x=>ante.length-x.1)
  (0,.list .full 0 [],.list .full 0 [],(gv,v,.list .full 0 []),st0,[],T) xy ⟨by omega,hF,LV.nil _ _ _,LV.nil _ _ _,fun _ e=>by simp[Ym] at e,hX0,rfl,hty0⟩ ⟨.refl _,trivial⟩ (.refl _) ?_
 clear hF hX0 hty0
 rintro⟨j,vg,vb',⟨gv',vt',vl'⟩,st,done,T⟩ ⟨hj,hF,hL1,hL2,hAp,hX,hdl,hty⟩
 dsimp only at hj hF hL1 hL2 hAp hX hdl hty
 refine vy fun x0=>?_
 by_cases c:j<ante.length
 ·have x1:((j:Int)<(ante.length:Int))=True:=iS xh
  obtain⟨p,hp⟩:∃ t,ante[j]?=some t:=⟨ante[j],iO c⟩
  have hPp:=hP p (iG hp)
  have gt:(dD mq ante)[j]?=some (p.emb mq):=by rw[dD,jp,hp];rfl
  refine uV fun hw=>?_
  have htk:Uv ((ante.take (j+1)).map Pm.last)=Uv ((ante.take j).map Pm.last)++[[vb p.last]]:=by simp[jh,hp]
  rw[drop_at hp] at hX
  have hcall:=hG p.form b24 p.bound mq qf V gv' vt' vl' st
  obtain⟨o,ho⟩:∃ o,o=G p.form p.bound qf st:=⟨_,rfl⟩
  rw[<- ho] at hcall
  obtain⟨⟨pk,ps,pa,⟨pts,ptl⟩,pl⟩,pb,plast⟩:=p
  simp only[cM,Pm.emb,kE,kF] at gt hcall htk
  dsimp only at hPp ho hcall
  try simp only[go_sem,seval,eK,x0,x1,gt,iT,iF,jq,jr,jt]
  intro b12 hb12
  obtain⟨U,hU⟩:∃ U:Store,U=(b12,AObj.cells [vi pk,vs ps,.list .none 4 (cJ pa),vs pts,.list .none 2 (cI ptl),.list .none 6 (cN pl),.list .none 1 (Zu pb),.val (.map mq),vb plast])::T:=⟨_,rfl⟩
  have u12:U.get b12=some (.cells [vi pk,vs ps,.list .none 4 (cJ pa),vs pts,.list .none 2 (cI ptl),.list .none 6 (cN pl),.list .none 1 (Zu pb),.val (.map mq),vb plast]):=by rw[hU];exact Ze _ _ _
  have uF:=hF.cons hb12 (.cells [vi pk,vs ps,.list .none 4 (cJ pa),vs pts,.list .none 2 (cI ptl),.list .none 6 (cN pl),.list .none 1 (Zu pb),.val (.map mq),vb plast])
  have uL1:=hL1.cons hb12 (.cells [vi pk,vs ps,.list .none 4 (cJ pa),vs pts,.list .none 2 (cI ptl),.list .none 6 (cN pl),.list .none 1 (Zu pb),.val (.map mq),vb plast])
  have uL2:=hL2.cons hb12 (.cells [vi pk,vs ps,.list .none 4 (cJ pa),vs pts,.list .none 2 (cI ptl),.list .none 6 (cN pl),.list .none 1 (Zu pb),.val (.map mq),vb plast])
  have nf:(b12=b8)=False:=iU (Zv hF.go hb12).symm
  have o12:¬ sO bm b24 gv' vt' vl' b12:=fun e=>by obtain⟨c,hc⟩:=hF.sk.own b12 e;rw[Zj hb12] at hc;cases hc
  rw[<- hU] at uF uL1 uL2 ⊢
  clear hU hb12 hF hL1 hL2
  have u8:=uF.go
  try simp only[go_sem,seval,u8,u12,uL1.one,uL1.cells]
  refine(hcall U uF.sk (hQ.kp uF.kp h.own) hm hPp.sc hPp.shp hPp.dp hPp.nds hPp.bl (fun n hn=>by have:=hPp.sl n hn;omega) xh).mono ?_
  rintro r U2 hR
  cases o with
  | none =>
    obtain⟨rfl,hH2,hP2⟩:=hR
    refine uw ?_
    intro fr'
    refine uw ?_
    rw[Vq (f:=fun(p:Pm) st=>G p.form p.bound qf st) (a:=⟨_,pb,plast⟩) ho.symm] at hX
    rw[hCl,hX]
    exact .mk (.refl _) ⟨rfl,hH2,uF.kp.pn hP2⟩
  | some xs =>
    obtain⟨x,st2⟩:=xs
    obtain⟨rfl,gv2,vt2,vl2,hs2,hk2⟩:=hR
    have hmo:=hGm _ _ _ _ _ _ ho.symm
    rw[WB (f:=fun(p:Pm) st=>G p.form p.bound qf st) (a:=⟨_,pb,plast⟩) ho.symm] at hX
    have wF:=uF.goal hs2 hk2
    have wL1:=uL1.fk uF.sk hk2
    have wL2:=uL2.fk uF.sk hk2
    have w12:=(hk2 _ _ u12 o12).1
    have w8:=wF.go
    have hfe:cY (done++[x])=cY done++[x.emb]:=by simp[dP]
    obtain⟨xk,xn,xa,⟨xts,xtl⟩,xl,xi,xg,xe⟩:=x
    simp only[cV] at hfe ⊢
    clear uF uL1 uL2 u12 u8 hk2 hs2 o12
    try simp only[go_sem,seval,w8,w12,wL1.one,wL1.cells]
    refine⟨rfl,wL1.appT rfl xj (by rw[cH];simp only[ij,im];omega) rfl xf wF.has (fun v1 S1 hv1 hT1 hS1=>?_)⟩
    have yF:=wF.app (T':=fun k=>Tp v1 k\/Tp vb' k) wL1 hT1 hS1 (fun _ e=>.inl e) (fun _ e=>e.elim .inr (fun e=>.inl (.inr e)))
    obtain⟨yL2,yAp⟩:=wL2.tn hT1 hAp.symm xf
    have y12:=hT1.kc wL1 _ _ w12
    have y8:=yF.go
    rw[<- hfe] at hv1
    clear wF wL1 wL2 hT1 hS1 w12 w8 hfe
    try simp only[go_sem,seval,y8,y12,nf,hv1.one,hv1.cells,yL2.one,yL2.cells]
    have zF:=yF.put [va,.list .full 0 [],.list .none 1 (Zu path),vs hs,.list .full 0 [],v1,vb']
    have zL1:=hv1.set y8 xf (.cells [va,.list .full 0 [],.list .none 1 (Zu path),vs hs,.list .full 0 [],v1,vb'])
    have zL2:=yL2.set y8 xf (.cells [va,.list .full 0 [],.list .none 1 (Zu path),vs hs,.list .full 0 [],v1,vb'])
    have zAp:=yAp.symm
    refine⟨rfl,zL2.appT rfl xj (by simp only[Uv,io,ip,ij,im];omega) rfl xf zF.has (fun v2 S2 hv2 hT2 hS2=>?_)⟩
    have qF:=zF.app (T':=fun k=>Tp v1 k\/Tp v2 k) zL2 hT2 hS2 (fun _ e=>.inr e) (fun _ e=>e.elim (fun e=>.inl (.inl e)) .inr)
    obtain⟨qL1,qAp⟩:=zL1.tn hT2 zAp xf
    have q8:=qF.go
    rw[<- htk] at hv2
    clear zF zL1 zL2 hT2 hS2 yF yL2 y8 y12 hv1
    try simp only[go_sem,seval,q8,hw,hv2.one,hv2.cells]
    exact .mk (j+1,v1,v2,(gv2,vt2,vl2),st2,done++[Zi.mk xk xn xa (.mk xts xtl) xl xi xg xe],S2.set b8 (.cells [va,.list .full 0 [],.list .none 1 (Zu path),vs hs,.list .full 0 [],v1,v2]))
     ⟨by omega,qF.put _,qL1.set q8 xf _,hv2.set q8 xf _,qAp,hX,by simp[hdl],by dsimp only;omega⟩ xX ⟨.refl _,trivial⟩ yS (.refl _)
 have x1:((j:Int)<(ante.length:Int))=False:=iU xh
 rw[show ante.take j=ante from iW xh] at hL2
 rw[show ante.drop j=[] from lX xh,V8] at hX
 have wg:=hL1.wk
 have wl:=hL2.wk
 have wg1:=hL1.one
 have wg2:=hL1.cells
 have wl1:=hL2.one
 have wl2:=hL2.cells
 have hF:=hF.tip (T':=Tp (.list .full 0 [])) (fun k e=>by simp[Tp,Ym] at e)
 rw[hX] at hCl
 dsimp only at hCl
 try simp only[go_sem,seval,eK,x0,x1,iV]
 clear hL1 hL2 c x0 x1 hj hAp hX hdl hP hG hGm
 rw[UJ] at hH
 have hmn:=hF.sk.mkr.n0
 have hmn1:=hF.sk.mkr.n1
 have hargs:=fun x (hx:x∈ha)=>fh (k:=hk) (s:=hs) (t:=.mk hts htl) (l:=hl) hx
 refine Zp (mu:=[24]) (dr:=[(7,5,0),(12,9,10),(18,8,9)]) [14,76,77,78,79,80,81,82,83,84,85,86,87,88,89,90] (fun x:Nat×AV×Store=>[(76,vi x.1)]) (fun x=>x.2.2)
  (fun x=>x.1<=ha.length/\st.m.n+cP (cK (ha.take x.1))<=8000/\FK σ (mO bm gv) S bm b24 b6 b8 zC gv' vt' vl' (st.add (cP (cK (ha.take x.1)))) [va,.list .full 0 [],.list .none 1 (Zu path),vs hs,x.2.1,vg,vb'] (Tp x.2.1) x.2.2 /\
   LV σ x.2.2 x.2.1 4 (cJ (Xx bound qf (ha.take x.1) 0))) (fun x=>ha.length-x.1)
  (0,.list .full 0 [],T) xy ⟨by omega,by simp only[iu,cK,cP];omega,by simp only[iu,cK,cP,GSt.add,MSt.add,Int.natCast_zero,Int.add_zero];exact hF,LV.nil _ _ _⟩ ⟨.refl _,trivial⟩ (.refl _) ?_
 clear hF
 rintro⟨j,vr,T⟩ ⟨hj,hcn,hF,hL⟩
 dsimp only at hj hcn hF hL
 refine vy fun x0=>?_
 by_cases c:j<ha.length
 ·have x1:((j:Int)<(ha.length:Int))=True:=iS xh
  obtain⟨a,hat⟩:∃ t,ha[j]?=some t:=⟨ha[j],iO c⟩
  have hma:=iG hat
  have hka:=hargs a hma
  have gt:(cJ ha)[j]?=some a.emb:=by rw[cW,jp,hat];rfl
  refine uV fun hw=>?_
  have hta:ha.take (j+1)=ha.take j++[a]:=by rw[jh,hat];rfl
  have htk:cJ (Xx bound qf (ha.take (j+1)) 0)=cJ (Xx bound qf (ha.take j) 0)++[(teS bound qf a 0).emb]:=by rw[hta];simp[cW,Xv]
  have hnd2:cP (cK (ha.take (j+1)))=cP (cK (ha.take j))+a.shape.nds:=by rw[hta,cS,jv,ZL];simp[cP,cS]
  have hnd3:cP (cK (ha.take (j+1)))<=cP (cK ha):=by
   have e2:=YO (cK ha) (j+1)
   rwa [show(cK ha).take (j+1)=cK (ha.take (j+1)) by rw[cS,cS,jx]] at e2
  have iha:=Ml σ bm b24 bound mq qf V hm xh a 0 gv' vt' vl' (st.add (cP (cK (ha.take j))))
  have hsa:=hH a hma
  generalize teS bound qf a 0=ta at iha htk
  obtain⟨ka,na,sa,la⟩:=a
  obtain⟨kt,nt,zt,lt⟩:=ta
  simp only[cO] at gt iha htk
  refine vG ?_
  intro b14 hb14
  obtain⟨U,hU⟩:∃ U:Store,U=(b14,AObj.cells [vi ka,vi na,vs sa,.list .none 4 (cJ la)])::T:=⟨_,rfl⟩
  have u14:U.get b14=some (.cells [vi ka,vi na,vs sa,.list .none 4 (cJ la)]):=by rw[hU];exact Ze _ _ _
  have uF:=hF.cons hb14 (.cells [vi ka,vi na,vs sa,.list .none 4 (cJ la)])
  have uL:=hL.cons hb14 (.cells [vi ka,vi na,vs sa,.list .none 4 (cJ la)])
  have o14:¬ sO bm b24 gv' vt' vl' b14:=fun e=>by obtain⟨c,hc⟩:=hF.sk.own b14 e;rw[Zj hb14] at hc;cases hc
  rw[<- hU] at uF uL ⊢
  clear hU hb14 hF hL
  have u8:=uF.go
  try simp only[go_sem,seval,u8,u14,uL.one,uL.cells]
  refine(iha U uF.sk (hQ.kp uF.kp h.own) (by rw[jG];exact hsa) xh).mono ?_
  rintro r U2 (⟨hc2,rfl,hs2,hk2⟩|⟨hc2,rfl,hH2,hP2⟩)
  ·have hk2:=hk2.up (bs:=b24) (vt:=vt') (vl:=vl')
   have wF:=uF.goal hs2 hk2
   have wL:=uL.fk uF.sk hk2
   have w14:=(hk2 _ _ u14 o14).1
   have w8:=wF.go
   rw[dV,show((cP (cK (ha.take j)):Int)+(Tm.mk ka na sa la).shape.nds)=(cP (cK (ha.take (j+1))):Int) by rw[hnd2];omega] at wF
   clear uF uL u14 u8 hk2 hs2 o14
   try simp only[go_sem,seval,w8,w14,wL.one,wL.cells]
   refine⟨rfl,wL.appT rfl xj yE rfl xf wF.has (fun v1 S1 hv1 hT1 hS1=>?_)⟩
   have yF:=wF.app (T':=Tp v1) wL hT1 hS1 (fun _ e=>e) (fun _ e=>.inr e)
   have y8:=yF.go
   rw[<- htk] at hv1
   clear wF wL hT1 hS1 w14 w8
   try simp only[go_sem,seval,y8,hw,hv1.one,hv1.cells]
   exact .mk (j+1,v1,S1.set b8 (.cells [va,.list .full 0 [],.list .none 1 (Zu path),vs hs,v1,vg,vb']))
    ⟨by omega,by simp only[GSt.add,MSt.add] at hc2;dsimp only;omega,yF.put _,hv1.set y8 xf _⟩ xX ⟨.refl _,trivial⟩ yS (.refl _)
  ·have eN:YU G env qf ⟨path,vars,ante,.mk hk hs ha (.mk hts htl) hl,bound⟩ m=none:=by
    rw[hCl,Uf,ig (by simp only[GSt.add,MSt.add] at hc2;omega)]
   rw[eN]
   exact rG
 have x1:((j:Int)<(ha.length:Int))=False:=iU xh
 rw[show ha.take j=ha from iW xh] at hL hF hcn
 rw[hCl,Uf,gZ hcn]
 have wr:=hL.wk
 have wr1:=hL.one
 have wr2:=hL.cells
 have h8:=hF.go
 have hgs:=hF.sk.gs
 have hlo:=hF.sk.wl.one.1
 have hlo2:=hF.sk.wl.one.2
 have hva2:=hF.sk.wt.one.1
 have n24:(b24=b8)=False:=iU (fun e=>hF.oo (.inr (.inl e.symm)))
 have n68:=hF.nro
 have zF:=hF.put [va,vl',.list .none 1 (Zu path),vs hs,vr,vg,vb']
 have z8:=zF.go
 have z6:=zF.gr
 try simp only[go_sem,seval,cF,x0,x1,iV,h8,hgs,hlo,hlo2,z8,z6,n24]
 have hS6:=zF.sk.set zF.or zF.fr (.cells [va,vl',.list .none 1 (Zu path),vs hs,vr,vg,vb'])
 have hK6:=zF.kp.set (.inr zF.fr0) (.cells [va,vl',.list .none 1 (Zu path),vs hs,vr,vg,vb'])
 generalize((T.set b8 (AObj.cells [va,vl',.list .none 1 (Zu path),vs hs,vr,vg,vb'])).set b6 (AObj.cells [va,vl',.list .none 1 (Zu path),vs hs,vr,vg,vb']):Store)=S6 at hS6 hK6 ⊢
 obtain⟨S7,sh,kp7,hH7,h07⟩:=hS6.wl.frz (ek _) (eB _) (by rw[cG];have h1:=hS6.tl;have h2:=hS6.ll;omega) hS6.mkr.has
 have hsl:Shl S6 S7 [va,vl',.list .none 1 (Zu path),vs hs,vr,vg,vb'] (Zr.emb ⟨vars,st.locals,path,hs,Xx bound qf ha 0,done,ante.map Pm.last⟩) :=
  ⟨.wk wa h07,sh,.wk (.refl _) h07,.wk (.refl _) h07,.wk wr h07,.wk wg h07,.wk wl h07,trivial⟩
 refine⟨by simp only[va1,wr1,wg1,wl1,lf],.mkS (Xq.aggl h07 hsl.at.1 hsl.at.2) ⟨rfl,gv',hS6.mkr.at (fun b c hb hc=>kp7 b _ hc (fun e=>?_)) hH7,fun k x a b=>?_⟩⟩
 ·rcases hb with rfl|hb
  ·exact hS6.nlm e
  ·exact hS6.ngl b hb e
 ·obtain⟨p,q⟩:=hK6 k x a b
  exact⟨kp7 k x p (fun e=>q (.inl (.inr (.inr (.inr e))))),fun e=>q (.inl (.inl e))⟩
end Go.Vx
end
