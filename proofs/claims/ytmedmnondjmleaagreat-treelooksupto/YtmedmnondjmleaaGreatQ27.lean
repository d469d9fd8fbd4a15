/- Part Q27 of the proof of treeLooksProved: the walk of the program on abstract values, and the plain law. -/
import Derived.Test.YtmedmnondjmleaaGreatQ26
set_option linter.unusedVariables false
set_option linter.unusedSimpArgs false
set_option maxRecDepth 100000
namespace Go.Vx
open Go.Proofs
theorem ZF:(ZA Tryz.prog 184=some 23)∧(Zh Tryz.prog 23=some 1)∧(Ze Tryz.prog 23=some false)∧(ZA Tryz.prog 23=some 3)∧(Zh Tryz.prog 3=some 1)∧(Ze Tryz.prog 3=some false)∧(Tryz.prog.underlying 184=some (.slice 23))∧(Tryz.prog.underlying 23=some (.slice 3)):=by
 refine ⟨?_,?_,?_,?_,?_,?_,?_,?_⟩<;>first | trivial | kernel_rfl
theorem N0:(ZA Tryz.prog 184=some 23)∧(Zh Tryz.prog 23=some 1)∧(Ze Tryz.prog 23=some false)∧(Tryz.prog.underlying 23=some (.slice 3))∧(Zh Tryz.prog 3=some 1)∧(Zl Tryz.prog 23=some (.slice none 0 0))∧(Tryz.prog.underlying 184=some (.slice 23))∧(ZQ Tryz.prog 23=some 24):=by
 refine ⟨?_,?_,?_,?_,?_,?_,?_,?_⟩<;>first | trivial | kernel_rfl
theorem Bs:(ZA Tryz.prog 23=some 3)∧(Zh Tryz.prog 3=some 1)∧(Ze Tryz.prog 3=some false):=by
 refine ⟨?_,?_,?_⟩<;>first | trivial | kernel_rfl
def Xh (l:List (List Int)):List (List AV):=l.map fun p=>[AV.list .none 1 (Yz p)]
theorem Zq (l:List (List Int)):(Xh l).length=l.length:=by simp [Xh]
theorem Wv {l:List (List Int)}{i:Nat}{c:List AV}(h:(Xh l)[i]?=some c):∃ p,l[i]?=some p∧c=[AV.list .none 1 (Yz p)]:=Yo h
theorem I4 (p:List Int)(n:Nat):(Yz p).drop n=Yz (p.drop n):=by simp [Yz,List.map_drop]
theorem UM (p:List (List Int))(n:Nat):(Xh p).drop n=Xh (p.drop n):=by simp [Xh,List.map_drop]
theorem UL (p:List (List Int))(n:Nat):(Xh p).take n=Xh (p.take n):=by simp [Xh,List.map_take]
theorem ZP (l:List Int):(Yz l).length=l.length:=by simp
theorem Xc (l:List (List Int))(hne:∀ p∈l,p≠[]):Pur Tryz.prog 168 [.list .none 1 (Xh l)] (.list .none 1 (Xh (l.map (·.drop 1)))):=by
 intro σ
 refine Zj.nodup (by kernel_rfl) (fun hnd=>?_)
 refine Zj.ok (by kernel_rfl) (fun hok=>?_)
 have hl:=(hok _ List.mem_cons_self).len
 rw [Zq] at hl
 clear hok
 refine Zc [] [] Tryz.func168 rfl (by kernel_rfl) ?_;rw [Tryz.ntmps168,Tryz.results168]
 refine gM ?_
 refine Zv (mu:=[]) (dr:=[]) [3,5,8,9,10,11,12,13,14,15,16,17] (fun x:Nat×AV×Store=>[(8,vi x.1),(3,x.2.1)]) (fun x=>x.2.2) (fun x=>x.1≤l.length∧LV σ x.2.2 x.2.1 1 (Xh ((l.take x.1).map (·.drop 1)))∧Has σ x.2.2) (fun x=>l.length-x.1) (0,.list .full 0 [],σ) (by kernel_rfl) ⟨by omega,LV.nil _ _ _,.refl _⟩ ⟨.refl _,.refl _,trivial⟩ (.refl _) ?_
 rintro ⟨i,v,S⟩ ⟨i1,i2,i3⟩
 simp only at i1 i2 i3
 refine gM ?_
 refine ⟨fun h1=>⟨by omega,h1,fun c hc=>?_⟩,fun h1=>?_⟩
 ·rw [Int.toNat_natCast] at hc
  obtain ⟨p,hp,rfl⟩:=Wv hc
  have hpn:=hne p (List.mem_of_getElem? hp)
  have hpl:0<p.length:=List.length_pos_iff.2 hpn
  try simp only [go_sem,Int.reduceEq,Int.reduceLT,Int.reduceLE,↓reduceIte,Nat.reduceEqDiff,Nat.reduceAdd,Nat.reduceSub,Nat.reduceLT,Nat.reduceLeDiff,Nat.reduceMul,reduceCtorEq,N0,i2.one,i2.cells,Vh]
  have hlp:(Yz p).length=p.length:=ZP p
  have e1:List.take (((Yz p).length:Int).toNat-Int.toNat 1) (List.drop (Int.toNat 1) (Yz p))=Yz (p.drop 1):=by
   rw [Int.toNat_natCast,show Int.toNat 1=1 from rfl,I4,List.take_of_length_le (by rw [ZP,List.length_drop,hlp];omega)]
  rw [e1]
  refine ⟨by rw [hlp];omega,by omega,rfl,i2.append rfl (by decide) (by simp [Xh];omega) rfl (by simp) i3 (fun v' S' hv' hkp hS'=>?_)⟩
  try simp only [go_sem,Int.reduceEq,Int.reduceLT,Int.reduceLE,↓reduceIte,Nat.reduceEqDiff,Nat.reduceAdd,Nat.reduceSub,Nat.reduceLT,Nat.reduceLeDiff,Nat.reduceMul,reduceCtorEq,N0,hv'.one,hv'.cells]
  rw [show IntKind.i64.wrap ((i:Int)+1)=((i+1:Nat):Int) from Zp (by omega) (by omega)]
  refine .mk (i+1,v',S') ⟨by simp only;omega,?_,hS'⟩ (by simp only;omega) ⟨.refl _,.refl _,trivial⟩ (by repeat first | exact Zf.turn _ rfl | refine Zf.put rfl ?_) (.refl _)
  simp only
  rw [List.take_add_one,hp,Option.toList_some,List.map_append]
  have:Xh ((l.take i).map (·.drop 1)++[p].map (·.drop 1))=Xh ((l.take i).map (·.drop 1))++[[AV.list .none 1 (Yz (p.drop 1))]]:=by simp [Xh]
  rw [this]
  exact hv'
 ·try simp only [go_sem,Int.reduceEq,Int.reduceLT,Int.reduceLE,↓reduceIte,Nat.reduceEqDiff,Nat.reduceAdd,Nat.reduceSub,Nat.reduceLT,Nat.reduceLeDiff,Nat.reduceMul,reduceCtorEq,N0,i2.one,i2.cells]
  have hil:l.take i=l:=List.take_of_length_le (by omega)
  rw [hil] at i2
  exact ir
theorem AB (p:List Int)(hp:p≠[]):Pur Tryz.prog 170 [.list .none 1 (Yz p)] (vb (!decide (p.headD 0=2))):=by
 intro σ
 obtain ⟨x,r,rfl⟩:=List.exists_cons_of_ne_nil hp
 refine Zc [] [] Tryz.func170 rfl (by kernel_rfl) ?_;rw [Tryz.ntmps170,Tryz.results170]
 try simp only [go_sem,Int.reduceEq,Int.reduceLT,Int.reduceLE,↓reduceIte,Nat.reduceEqDiff,Nat.reduceAdd,Nat.reduceSub,Nat.reduceLT,Nat.reduceLeDiff,Nat.reduceMul,reduceCtorEq,Bs,List.map_cons,List.length_cons]
 refine ⟨by omega,fun c hc=>?_⟩
 obtain rfl:[vi x]=c:=by simpa using hc
 try simp only [go_sem,Int.reduceEq,Int.reduceLT,Int.reduceLE,↓reduceIte,Nat.reduceEqDiff,Nat.reduceAdd,Nat.reduceSub,Nat.reduceLT,Nat.reduceLeDiff,Nat.reduceMul,reduceCtorEq,Bs,List.headD_cons]
 exact Zu
theorem US (l:List (List Int))(hne:∀ p∈l,p≠[]):Pur Tryz.prog 169 [.list .none 1 (Xh l),.val (.func (.func 170) #[] #[])] (vb (l.any fun p=>!decide (p.headD 0=2))):=by
 intro σ
 have h:=T4 (.func (.func 170) #[] #[]) .none 1 (l.map fun p=>AV.list .none 1 (Yz p)) (fun _=>σ) (fun i=>match l[i]? with | some p=>!decide (p.headD 0=2) | none=>false) (.inl rfl)
  (fun i e he _=>by
   obtain ⟨p,hp,rfl⟩:=Yo he
   rw [Y5]
   simp only [hp]
   exact AB p (hne p (List.mem_of_getElem? hp)) σ)
 rw [List.map_map,List.length_map] at h
 refine h.mono fun x σ' hx=>?_
 refine hx.one ?_
 rw [List.any_eq_true]
 constructor
 ·rintro ⟨n,hn,hb⟩
  obtain ⟨i,hi,rfl⟩:=List.getElem_of_mem hn
  exact ⟨i,hi,by simp only [List.getElem?_eq_getElem hi];exact hb⟩
 ·rintro ⟨i,hi,hb⟩
  simp only [List.getElem?_eq_getElem hi] at hb
  exact ⟨l[i],List.getElem_mem hi,hb⟩
def Py:Nat→List (List Int)→Bool
 | 0,_=>false
 | k+1,l =>
   if l=[[]] then true
   else if l.any (·.isEmpty) then false
   else if (l.headD []).headD 0=3∨(l.headD []).headD 0=4∨(l.headD []).headD 0=5 then decide ((l.takeWhile fun p=>decide (p.headD 0=(l.headD []).headD 0)).length=l.length)&&Py k (l.map (·.drop 1))
   else if (l.headD []).headD 0=1 then
    if (l.drop (l.takeWhile fun p=>decide (p.headD 0=(l.headD []).headD 0)).length).isEmpty || (l.drop (l.takeWhile fun p=>decide (p.headD 0=(l.headD []).headD 0)).length).any (fun p=>!decide (p.headD 0=2)) then false
    else Py k ((l.take (l.takeWhile fun p=>decide (p.headD 0=(l.headD []).headD 0)).length).map (·.drop 1))&&Py k ((l.drop (l.takeWhile fun p=>decide (p.headD 0=(l.headD []).headD 0)).length).map (·.drop 1))
   else false
theorem XY {α:Type}{P:α→Bool}:∀ {l:List α} {i:Nat},i≤l.length→(∀ (j:Nat) (x:α),j<i→l[j]?=some x→P x=true)→(∀ x,l[i]?=some x→P x=false)→(l.takeWhile P).length=i
 | [],i,hi,_,_=>by simp at hi;subst hi;rfl
 | a::r,0,_,_,h3=>by have:=h3 a rfl;simp [List.takeWhile_cons,this]
 | a::r,i+1,hi,h2,h3=>by
   have ha:=h2 0 a (by omega) rfl
   rw [List.takeWhile_cons,if_pos ha,List.length_cons]
   rw [XY (l:=r) (i:=i) (by simpa using hi) (fun j x hj hx=>h2 (j+1) x (by omega) (by simpa using hx)) (fun x hx=>h3 x (by simpa using hx))]
theorem XX {α:Type}{P:α→Bool}{l:List α}{i:Nat}{a:α}(h:(l.takeWhile P).length=i)(ha:l[0]?=some a)(hi:i=0:=by assumption):P a=false:=by
 subst hi
 cases l with
 | nil=>cases ha
 | cons b r =>
   simp at ha;subst ha
   cases hp:P b with
   | false=>rfl
   | true=>rw [List.takeWhile_cons,if_pos hp] at h;simp at h
theorem bj:∀ (k:Nat) (l:List (List Int)),l≠[]→(∀ p∈l,p.length<k)→Pur Tryz.prog 131 [.list .none 1 (Xh l)] (vb (Py k l)):=by
 intro k
 induction k with
 | zero =>
   intro l hl h
   obtain ⟨x,r,rfl⟩:=List.exists_cons_of_ne_nil hl
   exact absurd (h x List.mem_cons_self) (by omega)
 | succ k ih =>
   intro l hl h σ
   refine Zj.ok (by kernel_rfl) (fun hok=>?_)
   have hlen:=(hok _ List.mem_cons_self).len
   rw [Zq] at hlen
   clear hok
   have hl0:0<l.length:=List.length_pos_iff.2 hl
   obtain ⟨p0,hp0⟩:∃ p0,l[0]?=some p0:=⟨_,List.getElem?_eq_getElem hl0⟩
   have hh:l.headD []=p0:=by cases l with | nil=>cases hp0 | cons a r=>simpa using hp0
   have hw:∀ j:Nat,j≤137438953472→IntKind.i64.wrap ((j:Int)+1)=((j+1:Nat):Int):=fun j hj=>Zp (by omega) (by omega)
   rw [Py,hh]
   refine Zc [] [] Tryz.func131 rfl (by kernel_rfl) ?_;rw [Tryz.ntmps131,Tryz.results131]
   refine dZ ?_
   refine ⟨fun g1=>⟨by omega,fun c hc=>?_⟩,fun g1=>?_⟩
   ·obtain ⟨p,hp,rfl⟩:=Wv hc
    obtain rfl:p0=p:=by rw [show Int.toNat 0=0 from rfl,hp0] at hp;injection hp
    have hl1:l=[p0]:=by
     match l,hp0,g1 with
     | [a],h,_=>simpa using h
     | a::b::r,_,h=>simp at h;omega
    refine fh ?_
    by_cases hz:p0.length=0
    ·have fz:((p0.length:Int)=0)=True:=eq_true (by omega)
     try simp only [go_sem,Int.reduceEq,Int.reduceLT,Int.reduceLE,↓reduceIte,Nat.reduceEqDiff,Nat.reduceAdd,Nat.reduceSub,Nat.reduceLT,Nat.reduceLeDiff,Nat.reduceMul,reduceCtorEq,ZF,fz,decide_true]
     have:p0=[]:=List.length_eq_zero_iff.1 hz
     rw [if_pos (by rw [hl1,this])]
     exact Zu
    ·have fz:((p0.length:Int)=0)=False:=eq_false (by omega)
     have hnl:¬ l=[[]]:=fun e=>by rw [hl1] at e;simp at e;rw [e] at hz;simp at hz
     try simp only [go_sem,Int.reduceEq,Int.reduceLT,Int.reduceLE,↓reduceIte,Nat.reduceEqDiff,Nat.reduceAdd,Nat.reduceSub,Nat.reduceLT,Nat.reduceLeDiff,Nat.reduceMul,reduceCtorEq,ZF,fz,decide_false]
     rw [if_neg hnl]
     refine Zv (mu:=[]) (dr:=[]) [2,4,21,22,23,24,25,26,27,28] (fun i:Nat=>[(21,vi i)]) (fun _=>σ) (fun i=>i≤l.length∧∀ (j:Nat) (p:List Int),j<i→l[j]?=some p→p≠[]) (fun i=>l.length-i) 0 (by kernel_rfl) ⟨by omega,fun j p hj=>by omega⟩ ⟨.refl _,trivial⟩ (.refl _) ?_
     rintro i ⟨i1,i2⟩
     refine dZ ?_
     refine ⟨fun h1=>⟨by omega,h1,fun c hc=>?_⟩,fun h1=>?_⟩
     ·rw [Int.toNat_natCast] at hc
      obtain ⟨p,hp,rfl⟩:=Wv hc
      refine fh ?_
      refine ⟨fun h2=>?_,fun h2=>?_⟩
      ·have:(l.any fun x=>x.isEmpty)=true:=List.any_eq_true.2 ⟨p,List.mem_of_getElem? hp,by rw [List.isEmpty_iff_length_eq_zero];omega⟩
       rw [if_pos this]
       exact Zu
      ·rw [hw i (by omega)]
       refine .mk (i+1) ⟨by omega,fun j q hj hq=>?_⟩ (by omega) ⟨.refl _,trivial⟩ (by repeat first | exact Zf.turn _ rfl | refine Zf.put rfl ?_) (.refl _)
       by_cases e:j=i
       ·subst e;rw [hp] at hq;injection hq with hq;subst hq;intro e;rw [e] at h2;simp at h2
       ·exact i2 j q (by omega) hq
     ·have hne:∀ p∈l,p≠[]:=fun p hp=>by
       obtain ⟨j,hj,rfl⟩:=List.getElem_of_mem hp
       exact i2 j _ (by omega) (List.getElem?_eq_getElem hj)
      have hany:¬ (l.any fun x=>x.isEmpty)=true:=by
       rw [List.any_eq_true]
       rintro ⟨p,hp,he⟩
       exact hne p hp (List.isEmpty_iff.1 he)
      rw [if_neg hany]
      have hdr:∀ q∈l.map (·.drop 1),q.length<k:=by
       intro q hq
       obtain ⟨p,hp,rfl⟩:=List.mem_map.1 hq
       have:=h p hp
       have:=List.length_pos_iff.2 (hne p hp)
       simp only [List.length_drop];omega
      refine ⟨by omega,fun c hc=>?_⟩
      obtain ⟨p,hp,rfl⟩:=Wv hc
      obtain rfl:p0=p:=by rw [show Int.toNat 0=0 from rfl,hp0] at hp;injection hp
      obtain ⟨x,xs,hx⟩:=List.exists_cons_of_ne_nil (hne p0 (List.mem_of_getElem? hp0))
      have hhd:p0.headD 0=x:=by rw [hx];rfl
      rw [hhd]
      rw [hx]
      refine eO ?_
      refine ⟨by omega,fun c hc=>?_⟩
      obtain rfl:[vi x]=c:=by simpa using hc
      refine gO ?_
      refine Zv (mu:=[]) (dr:=[]) [7,34,35,36,37,38,39,40,41,42,43,44,45,46,47,48,49] (fun i:Nat=>[(7,vi i)]) (fun _=>σ) (fun i=>i≤l.length∧∀ (j:Nat) (p:List Int),j<i→l[j]?=some p→decide (p.headD 0=x)=true) (fun i=>l.length-i) 0 (by kernel_rfl) ⟨by omega,fun j p hj=>by omega⟩ ⟨.refl _,trivial⟩ (.refl _) ?_
      rintro n ⟨n1,n2⟩
      refine dZ ?_
      refine ⟨fun h3=>⟨by omega,by omega,fun c hc=>?_⟩,fun h3=>?_⟩
      ·rw [Int.toNat_natCast] at hc
       obtain ⟨p,hp,rfl⟩:=Wv hc
       obtain ⟨y,ys,hy⟩:=List.exists_cons_of_ne_nil (hne p (List.mem_of_getElem? hp))
       rw [hy]
       refine eO ?_
       refine ⟨by omega,fun c hc=>?_⟩
       obtain rfl:[vi y]=c:=by simpa using hc
       by_cases hyx:y=x
       ·have fy:(y=x)=True:=eq_true hyx
        refine gu ?_
        rw [hw n (by omega)]
        refine .mk (n+1) ⟨by omega,fun j q hj hq=>?_⟩ (by omega) ⟨.refl _,trivial⟩ (by repeat first | exact Zf.turn _ rfl | refine Zf.put rfl ?_) (.refl _)
        by_cases e:j=n
        ·subst e;rw [hp] at hq;injection hq with hq;subst hq;rw [hy];simp [hyx]
        ·exact n2 j q (by omega) hq
       ·have fy:(y=x)=False:=eq_false hyx
        have htw:(l.takeWhile fun p=>decide (p.headD 0=x)).length=n:=XY n1 n2 (fun q hq=>by rw [hp] at hq;injection hq with hq;subst hq;rw [hy];simp [hyx])
        rw [htw]
        have hx5:x=3∨x=4∨x=5∨x=1∨(x≠1∧x≠3∧x≠4∧x≠5):=by omega
        rcases hx5 with rfl | rfl | rfl | rfl | ⟨a1,a3,a4,a5⟩
        ·refine ez ?_
         refine ⟨fun g=>?_,fun g=>?_⟩
         ·refine (Xc l hne).use ?_
          refine ec ?_
          refine (ih (l.map (·.drop 1)) (by simpa using hl) hdr).use ?_
          refine ec ?_
          exact ZC (by simp [show n=l.length by omega])
         ·exact ZC (by simp [show ¬ n=l.length by omega])
        ·refine ez ?_
         refine ⟨fun g=>?_,fun g=>?_⟩
         ·refine (Xc l hne).use ?_
          refine ec ?_
          refine (ih (l.map (·.drop 1)) (by simpa using hl) hdr).use ?_
          refine ec ?_
          exact ZC (by simp [show n=l.length by omega])
         ·exact ZC (by simp [show ¬ n=l.length by omega])
        ·refine ez ?_
         refine ⟨fun g=>?_,fun g=>?_⟩
         ·refine (Xc l hne).use ?_
          refine ec ?_
          refine (ih (l.map (·.drop 1)) (by simpa using hl) hdr).use ?_
          refine ec ?_
          exact ZC (by simp [show n=l.length by omega])
         ·exact ZC (by simp [show ¬ n=l.length by omega])
        ·refine fV ?_
         have e1:List.take ((l.length:Int).toNat-(n:Int).toNat) (List.drop (n:Int).toNat (Xh l))=Xh (l.drop n):=by
          rw [Int.toNat_natCast,Int.toNat_natCast,UM,List.take_of_length_le (by rw [Zq,List.length_drop];omega)]
         rw [e1,Zq]
         have hned:∀ p∈l.drop n,p≠[]:=fun p hp=>hne p (List.mem_of_mem_drop hp)
         have hnet:∀ p∈l.take n,p≠[]:=fun p hp=>hne p (List.mem_of_mem_take hp)
         have n0:0<n:=by
          rcases Nat.eq_zero_or_pos n with e | e
          ·exfalso
           have:=XX htw hp0 e
           rw [hhd] at this;simp at this
          ·exact e
         refine ⟨by omega,by omega,by omega,fun g1=>?_,fun g1=>?_⟩
         ·refine (US (l.drop n) hned).use ?_
          have hie:(l.drop n).isEmpty=false:=by
           cases he:(l.drop n).isEmpty with
           | false=>rfl
           | true=>rw [List.isEmpty_iff_length_eq_zero] at he;omega
          rw [hie,Bool.false_or]
          obtain ⟨ba,fa⟩:∃ b,((l.drop n).any fun p=>!decide (p.headD 0=2))=b:=⟨_,rfl⟩
          rw [fa]
          cases ba with
          | true =>
            refine ec ?_
            exact ZC (by simp)
          | false =>
            refine gE ?_
            have e2:List.take ((n:Int).toNat-Int.toNat 0) (List.drop (Int.toNat 0) (Xh l))=Xh (l.take n):=by
             rw [Int.toNat_natCast,show Int.toNat 0=0 from rfl,List.drop_zero,Nat.sub_zero,UL]
            rw [e2]
            refine ⟨by omega,by omega,?_⟩
            refine (Xc (l.take n) hnet).use ?_
            refine ec ?_
            refine (ih ((l.take n).map (·.drop 1)) (fun e=>by have:=congrArg List.length e;rw [List.length_map,List.length_take,List.length_nil] at this;omega) (fun q hq=>hdr q (by
             obtain ⟨p,hp,rfl⟩:=List.mem_map.1 hq
             exact List.mem_map_of_mem (List.mem_of_mem_take hp)))).use ?_
            obtain ⟨bt,ft⟩:∃ b,Py k ((l.take n).map (·.drop 1))=b:=⟨_,rfl⟩
            rw [ft]
            cases bt with
            | false =>
              refine ec ?_
              exact ZC (by simp)
            | true =>
              refine ec ?_
              refine (Xc (l.drop n) hned).use ?_
              refine ec ?_
              refine (ih ((l.drop n).map (·.drop 1)) (fun e=>by have:=congrArg List.length e;rw [List.length_map,List.length_nil] at this;omega) (fun q hq=>hdr q (by
               obtain ⟨p,hp,rfl⟩:=List.mem_map.1 hq
               exact List.mem_map_of_mem (List.mem_of_mem_drop hp)))).use ?_
              refine ec ?_
              exact ZC (by simp)
         ·have hie:(l.drop n).isEmpty=true:=List.isEmpty_iff_length_eq_zero.2 (by omega)
          rw [hie]
          exact ZC (by simp)
        ·have f1:(x=1)=False:=eq_false a1
         have f3:(x=3)=False:=eq_false a3
         have f4:(x=4)=False:=eq_false a4
         have f5:(x=5)=False:=eq_false a5
         refine fK ?_
         exact Zu
      ·have htw:(l.takeWhile fun p=>decide (p.headD 0=x)).length=n:=XY n1 n2 (fun q hq=>by have:=(List.getElem?_eq_some_iff.1 hq).1;omega)
       rw [htw]
       have hx5:x=3∨x=4∨x=5∨x=1∨(x≠1∧x≠3∧x≠4∧x≠5):=by omega
       rcases hx5 with rfl | rfl | rfl | rfl | ⟨a1,a3,a4,a5⟩
       ·refine eA ?_
        refine ⟨fun g=>?_,fun g=>?_⟩
        ·refine (Xc l hne).use ?_
         refine dZ ?_
         refine (ih (l.map (·.drop 1)) (by simpa using hl) hdr).use ?_
         refine dZ ?_
         exact ZC (by simp [show n=l.length by omega])
        ·exact ZC (by simp [show ¬ n=l.length by omega])
       ·refine eA ?_
        refine ⟨fun g=>?_,fun g=>?_⟩
        ·refine (Xc l hne).use ?_
         refine dZ ?_
         refine (ih (l.map (·.drop 1)) (by simpa using hl) hdr).use ?_
         refine dZ ?_
         exact ZC (by simp [show n=l.length by omega])
        ·exact ZC (by simp [show ¬ n=l.length by omega])
       ·refine eA ?_
        refine ⟨fun g=>?_,fun g=>?_⟩
        ·refine (Xc l hne).use ?_
         refine dZ ?_
         refine (ih (l.map (·.drop 1)) (by simpa using hl) hdr).use ?_
         refine dZ ?_
         exact ZC (by simp [show n=l.length by omega])
        ·exact ZC (by simp [show ¬ n=l.length by omega])
       ·refine fW ?_
        have e1:List.take ((l.length:Int).toNat-(n:Int).toNat) (List.drop (n:Int).toNat (Xh l))=Xh (l.drop n):=by
         rw [Int.toNat_natCast,Int.toNat_natCast,UM,List.take_of_length_le (by rw [Zq,List.length_drop];omega)]
        rw [e1,Zq]
        have hned:∀ p∈l.drop n,p≠[]:=fun p hp=>hne p (List.mem_of_mem_drop hp)
        have hnet:∀ p∈l.take n,p≠[]:=fun p hp=>hne p (List.mem_of_mem_take hp)
        have n0:0<n:=by
         rcases Nat.eq_zero_or_pos n with e | e
         ·exfalso
          have:=XX htw hp0 e
          rw [hhd] at this;simp at this
         ·exact e
        refine ⟨by omega,by omega,by omega,fun g1=>?_,fun g1=>?_⟩
        ·refine (US (l.drop n) hned).use ?_
         have hie:(l.drop n).isEmpty=false:=by
          cases he:(l.drop n).isEmpty with
          | false=>rfl
          | true=>rw [List.isEmpty_iff_length_eq_zero] at he;omega
         rw [hie,Bool.false_or]
         obtain ⟨ba,fa⟩:∃ b,((l.drop n).any fun p=>!decide (p.headD 0=2))=b:=⟨_,rfl⟩
         rw [fa]
         cases ba with
         | true =>
           refine dZ ?_
           exact ZC (by simp)
         | false =>
           refine gF ?_
           have e2:List.take ((n:Int).toNat-Int.toNat 0) (List.drop (Int.toNat 0) (Xh l))=Xh (l.take n):=by
            rw [Int.toNat_natCast,show Int.toNat 0=0 from rfl,List.drop_zero,Nat.sub_zero,UL]
           rw [e2]
           refine ⟨by omega,by omega,?_⟩
           refine (Xc (l.take n) hnet).use ?_
           refine dZ ?_
           refine (ih ((l.take n).map (·.drop 1)) (fun e=>by have:=congrArg List.length e;rw [List.length_map,List.length_take,List.length_nil] at this;omega) (fun q hq=>hdr q (by
            obtain ⟨p,hp,rfl⟩:=List.mem_map.1 hq
            exact List.mem_map_of_mem (List.mem_of_mem_take hp)))).use ?_
           obtain ⟨bt,ft⟩:∃ b,Py k ((l.take n).map (·.drop 1))=b:=⟨_,rfl⟩
           rw [ft]
           cases bt with
           | false =>
             refine dZ ?_
             exact ZC (by simp)
           | true =>
             refine dZ ?_
             refine (Xc (l.drop n) hned).use ?_
             refine dZ ?_
             refine (ih ((l.drop n).map (·.drop 1)) (fun e=>by have:=congrArg List.length e;rw [List.length_map,List.length_nil] at this;omega) (fun q hq=>hdr q (by
              obtain ⟨p,hp,rfl⟩:=List.mem_map.1 hq
              exact List.mem_map_of_mem (List.mem_of_mem_drop hp)))).use ?_
             refine dZ ?_
             exact ZC (by simp)
        ·have hie:(l.drop n).isEmpty=true:=List.isEmpty_iff_length_eq_zero.2 (by omega)
         rw [hie]
         exact ZC (by simp)
       ·have f1:(x=1)=False:=eq_false a1
        have f3:(x=3)=False:=eq_false a3
        have f4:(x=4)=False:=eq_false a4
        have f5:(x=5)=False:=eq_false a5
        refine fM ?_
        exact Zu
   ·have hnl:¬ l=[[]]:=fun e=>by rw [e] at g1;simp at g1
    rw [if_neg hnl]
    refine Zv (mu:=[]) (dr:=[]) [2,4,21,22,23,24,25,26,27,28] (fun i:Nat=>[(21,vi i)]) (fun _=>σ) (fun i=>i≤l.length∧∀ (j:Nat) (p:List Int),j<i→l[j]?=some p→p≠[]) (fun i=>l.length-i) 0 (by kernel_rfl) ⟨by omega,fun j p hj=>by omega⟩ ⟨.refl _,trivial⟩ (.refl _) ?_
    rintro i ⟨i1,i2⟩
    refine dZ ?_
    refine ⟨fun h1=>⟨by omega,h1,fun c hc=>?_⟩,fun h1=>?_⟩
    ·rw [Int.toNat_natCast] at hc
     obtain ⟨p,hp,rfl⟩:=Wv hc
     refine fh ?_
     refine ⟨fun h2=>?_,fun h2=>?_⟩
     ·have:(l.any fun x=>x.isEmpty)=true:=List.any_eq_true.2 ⟨p,List.mem_of_getElem? hp,by rw [List.isEmpty_iff_length_eq_zero];omega⟩
      rw [if_pos this]
      exact Zu
     ·rw [hw i (by omega)]
      refine .mk (i+1) ⟨by omega,fun j q hj hq=>?_⟩ (by omega) ⟨.refl _,trivial⟩ (by repeat first | exact Zf.turn _ rfl | refine Zf.put rfl ?_) (.refl _)
      by_cases e:j=i
      ·subst e;rw [hp] at hq;injection hq with hq;subst hq;intro e;rw [e] at h2;simp at h2
      ·exact i2 j q (by omega) hq
    ·have hne:∀ p∈l,p≠[]:=fun p hp=>by
      obtain ⟨j,hj,rfl⟩:=List.getElem_of_mem hp
      exact i2 j _ (by omega) (List.getElem?_eq_getElem hj)
     have hany:¬ (l.any fun x=>x.isEmpty)=true:=by
      rw [List.any_eq_true]
      rintro ⟨p,hp,he⟩
      exact hne p hp (List.isEmpty_iff.1 he)
     rw [if_neg hany]
     have hdr:∀ q∈l.map (·.drop 1),q.length<k:=by
      intro q hq
      obtain ⟨p,hp,rfl⟩:=List.mem_map.1 hq
      have:=h p hp
      have:=List.length_pos_iff.2 (hne p hp)
      simp only [List.length_drop];omega
     refine ⟨by omega,fun c hc=>?_⟩
     obtain ⟨p,hp,rfl⟩:=Wv hc
     obtain rfl:p0=p:=by rw [show Int.toNat 0=0 from rfl,hp0] at hp;injection hp
     obtain ⟨x,xs,hx⟩:=List.exists_cons_of_ne_nil (hne p0 (List.mem_of_getElem? hp0))
     have hhd:p0.headD 0=x:=by rw [hx];rfl
     rw [hhd]
     rw [hx]
     refine eO ?_
     refine ⟨by omega,fun c hc=>?_⟩
     obtain rfl:[vi x]=c:=by simpa using hc
     refine gO ?_
     refine Zv (mu:=[]) (dr:=[]) [7,34,35,36,37,38,39,40,41,42,43,44,45,46,47,48,49] (fun i:Nat=>[(7,vi i)]) (fun _=>σ) (fun i=>i≤l.length∧∀ (j:Nat) (p:List Int),j<i→l[j]?=some p→decide (p.headD 0=x)=true) (fun i=>l.length-i) 0 (by kernel_rfl) ⟨by omega,fun j p hj=>by omega⟩ ⟨.refl _,trivial⟩ (.refl _) ?_
     rintro n ⟨n1,n2⟩
     refine dZ ?_
     refine ⟨fun h3=>⟨by omega,by omega,fun c hc=>?_⟩,fun h3=>?_⟩
     ·rw [Int.toNat_natCast] at hc
      obtain ⟨p,hp,rfl⟩:=Wv hc
      obtain ⟨y,ys,hy⟩:=List.exists_cons_of_ne_nil (hne p (List.mem_of_getElem? hp))
      rw [hy]
      refine eO ?_
      refine ⟨by omega,fun c hc=>?_⟩
      obtain rfl:[vi y]=c:=by simpa using hc
      by_cases hyx:y=x
      ·have fy:(y=x)=True:=eq_true hyx
       refine gu ?_
       rw [hw n (by omega)]
       refine .mk (n+1) ⟨by omega,fun j q hj hq=>?_⟩ (by omega) ⟨.refl _,trivial⟩ (by repeat first | exact Zf.turn _ rfl | refine Zf.put rfl ?_) (.refl _)
       by_cases e:j=n
       ·subst e;rw [hp] at hq;injection hq with hq;subst hq;rw [hy];simp [hyx]
       ·exact n2 j q (by omega) hq
      ·have fy:(y=x)=False:=eq_false hyx
       have htw:(l.takeWhile fun p=>decide (p.headD 0=x)).length=n:=XY n1 n2 (fun q hq=>by rw [hp] at hq;injection hq with hq;subst hq;rw [hy];simp [hyx])
       rw [htw]
       have hx5:x=3∨x=4∨x=5∨x=1∨(x≠1∧x≠3∧x≠4∧x≠5):=by omega
       rcases hx5 with rfl | rfl | rfl | rfl | ⟨a1,a3,a4,a5⟩
       ·refine ez ?_
        refine ⟨fun g=>?_,fun g=>?_⟩
        ·refine (Xc l hne).use ?_
         refine ec ?_
         refine (ih (l.map (·.drop 1)) (by simpa using hl) hdr).use ?_
         refine ec ?_
         exact ZC (by simp [show n=l.length by omega])
        ·exact ZC (by simp [show ¬ n=l.length by omega])
       ·refine ez ?_
        refine ⟨fun g=>?_,fun g=>?_⟩
        ·refine (Xc l hne).use ?_
         refine ec ?_
         refine (ih (l.map (·.drop 1)) (by simpa using hl) hdr).use ?_
         refine ec ?_
         exact ZC (by simp [show n=l.length by omega])
        ·exact ZC (by simp [show ¬ n=l.length by omega])
       ·refine ez ?_
        refine ⟨fun g=>?_,fun g=>?_⟩
        ·refine (Xc l hne).use ?_
         refine ec ?_
         refine (ih (l.map (·.drop 1)) (by simpa using hl) hdr).use ?_
         refine ec ?_
         exact ZC (by simp [show n=l.length by omega])
        ·exact ZC (by simp [show ¬ n=l.length by omega])
       ·refine fV ?_
        have e1:List.take ((l.length:Int).toNat-(n:Int).toNat) (List.drop (n:Int).toNat (Xh l))=Xh (l.drop n):=by
         rw [Int.toNat_natCast,Int.toNat_natCast,UM,List.take_of_length_le (by rw [Zq,List.length_drop];omega)]
        rw [e1,Zq]
        have hned:∀ p∈l.drop n,p≠[]:=fun p hp=>hne p (List.mem_of_mem_drop hp)
        have hnet:∀ p∈l.take n,p≠[]:=fun p hp=>hne p (List.mem_of_mem_take hp)
        have n0:0<n:=by
         rcases Nat.eq_zero_or_pos n with e | e
         ·exfalso
          have:=XX htw hp0 e
          rw [hhd] at this;simp at this
         ·exact e
        refine ⟨by omega,by omega,by omega,fun g1=>?_,fun g1=>?_⟩
        ·refine (US (l.drop n) hned).use ?_
         have hie:(l.drop n).isEmpty=false:=by
          cases he:(l.drop n).isEmpty with
          | false=>rfl
          | true=>rw [List.isEmpty_iff_length_eq_zero] at he;omega
         rw [hie,Bool.false_or]
         obtain ⟨ba,fa⟩:∃ b,((l.drop n).any fun p=>!decide (p.headD 0=2))=b:=⟨_,rfl⟩
         rw [fa]
         cases ba with
         | true =>
           refine ec ?_
           exact ZC (by simp)
         | false =>
           refine gE ?_
           have e2:List.take ((n:Int).toNat-Int.toNat 0) (List.drop (Int.toNat 0) (Xh l))=Xh (l.take n):=by
            rw [Int.toNat_natCast,show Int.toNat 0=0 from rfl,List.drop_zero,Nat.sub_zero,UL]
           rw [e2]
           refine ⟨by omega,by omega,?_⟩
           refine (Xc (l.take n) hnet).use ?_
           refine ec ?_
           refine (ih ((l.take n).map (·.drop 1)) (fun e=>by have:=congrArg List.length e;rw [List.length_map,List.length_take,List.length_nil] at this;omega) (fun q hq=>hdr q (by
            obtain ⟨p,hp,rfl⟩:=List.mem_map.1 hq
            exact List.mem_map_of_mem (List.mem_of_mem_take hp)))).use ?_
           obtain ⟨bt,ft⟩:∃ b,Py k ((l.take n).map (·.drop 1))=b:=⟨_,rfl⟩
           rw [ft]
           cases bt with
           | false =>
             refine ec ?_
             exact ZC (by simp)
           | true =>
             refine ec ?_
             refine (Xc (l.drop n) hned).use ?_
             refine ec ?_
             refine (ih ((l.drop n).map (·.drop 1)) (fun e=>by have:=congrArg List.length e;rw [List.length_map,List.length_nil] at this;omega) (fun q hq=>hdr q (by
              obtain ⟨p,hp,rfl⟩:=List.mem_map.1 hq
              exact List.mem_map_of_mem (List.mem_of_mem_drop hp)))).use ?_
             refine ec ?_
             exact ZC (by simp)
        ·have hie:(l.drop n).isEmpty=true:=List.isEmpty_iff_length_eq_zero.2 (by omega)
         rw [hie]
         exact ZC (by simp)
       ·have f1:(x=1)=False:=eq_false a1
        have f3:(x=3)=False:=eq_false a3
        have f4:(x=4)=False:=eq_false a4
        have f5:(x=5)=False:=eq_false a5
        refine fK ?_
        exact Zu
     ·have htw:(l.takeWhile fun p=>decide (p.headD 0=x)).length=n:=XY n1 n2 (fun q hq=>by have:=(List.getElem?_eq_some_iff.1 hq).1;omega)
      rw [htw]
      have hx5:x=3∨x=4∨x=5∨x=1∨(x≠1∧x≠3∧x≠4∧x≠5):=by omega
      rcases hx5 with rfl | rfl | rfl | rfl | ⟨a1,a3,a4,a5⟩
      ·refine eA ?_
       refine ⟨fun g=>?_,fun g=>?_⟩
       ·refine (Xc l hne).use ?_
        refine dZ ?_
        refine (ih (l.map (·.drop 1)) (by simpa using hl) hdr).use ?_
        refine dZ ?_
        exact ZC (by simp [show n=l.length by omega])
       ·exact ZC (by simp [show ¬ n=l.length by omega])
      ·refine eA ?_
       refine ⟨fun g=>?_,fun g=>?_⟩
       ·refine (Xc l hne).use ?_
        refine dZ ?_
        refine (ih (l.map (·.drop 1)) (by simpa using hl) hdr).use ?_
        refine dZ ?_
        exact ZC (by simp [show n=l.length by omega])
       ·exact ZC (by simp [show ¬ n=l.length by omega])
      ·refine eA ?_
       refine ⟨fun g=>?_,fun g=>?_⟩
       ·refine (Xc l hne).use ?_
        refine dZ ?_
        refine (ih (l.map (·.drop 1)) (by simpa using hl) hdr).use ?_
        refine dZ ?_
        exact ZC (by simp [show n=l.length by omega])
       ·exact ZC (by simp [show ¬ n=l.length by omega])
      ·refine fW ?_
       have e1:List.take ((l.length:Int).toNat-(n:Int).toNat) (List.drop (n:Int).toNat (Xh l))=Xh (l.drop n):=by
        rw [Int.toNat_natCast,Int.toNat_natCast,UM,List.take_of_length_le (by rw [Zq,List.length_drop];omega)]
       rw [e1,Zq]
       have hned:∀ p∈l.drop n,p≠[]:=fun p hp=>hne p (List.mem_of_mem_drop hp)
       have hnet:∀ p∈l.take n,p≠[]:=fun p hp=>hne p (List.mem_of_mem_take hp)
       have n0:0<n:=by
        rcases Nat.eq_zero_or_pos n with e | e
        ·exfalso
         have:=XX htw hp0 e
         rw [hhd] at this;simp at this
        ·exact e
       refine ⟨by omega,by omega,by omega,fun g1=>?_,fun g1=>?_⟩
       ·refine (US (l.drop n) hned).use ?_
        have hie:(l.drop n).isEmpty=false:=by
         cases he:(l.drop n).isEmpty with
         | false=>rfl
         | true=>rw [List.isEmpty_iff_length_eq_zero] at he;omega
        rw [hie,Bool.false_or]
        obtain ⟨ba,fa⟩:∃ b,((l.drop n).any fun p=>!decide (p.headD 0=2))=b:=⟨_,rfl⟩
        rw [fa]
        cases ba with
        | true =>
          refine dZ ?_
          exact ZC (by simp)
        | false =>
          refine gF ?_
          have e2:List.take ((n:Int).toNat-Int.toNat 0) (List.drop (Int.toNat 0) (Xh l))=Xh (l.take n):=by
           rw [Int.toNat_natCast,show Int.toNat 0=0 from rfl,List.drop_zero,Nat.sub_zero,UL]
          rw [e2]
          refine ⟨by omega,by omega,?_⟩
          refine (Xc (l.take n) hnet).use ?_
          refine dZ ?_
          refine (ih ((l.take n).map (·.drop 1)) (fun e=>by have:=congrArg List.length e;rw [List.length_map,List.length_take,List.length_nil] at this;omega) (fun q hq=>hdr q (by
           obtain ⟨p,hp,rfl⟩:=List.mem_map.1 hq
           exact List.mem_map_of_mem (List.mem_of_mem_take hp)))).use ?_
          obtain ⟨bt,ft⟩:∃ b,Py k ((l.take n).map (·.drop 1))=b:=⟨_,rfl⟩
          rw [ft]
          cases bt with
          | false =>
            refine dZ ?_
            exact ZC (by simp)
          | true =>
            refine dZ ?_
            refine (Xc (l.drop n) hned).use ?_
            refine dZ ?_
            refine (ih ((l.drop n).map (·.drop 1)) (fun e=>by have:=congrArg List.length e;rw [List.length_map,List.length_nil] at this;omega) (fun q hq=>hdr q (by
             obtain ⟨p,hp,rfl⟩:=List.mem_map.1 hq
             exact List.mem_map_of_mem (List.mem_of_mem_drop hp)))).use ?_
            refine dZ ?_
            exact ZC (by simp)
       ·have hie:(l.drop n).isEmpty=true:=List.isEmpty_iff_length_eq_zero.2 (by omega)
        rw [hie]
        exact ZC (by simp)
      ·have f1:(x=1)=False:=eq_false a1
       have f3:(x=3)=False:=eq_false a3
       have f4:(x=4)=False:=eq_false a4
       have f5:(x=5)=False:=eq_false a5
       refine fM ?_
       exact Zu
end Go.Vx
