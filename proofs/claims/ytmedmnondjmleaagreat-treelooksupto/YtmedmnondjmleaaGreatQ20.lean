/- Part Q20 of the proof of treeLooksProved: the walk of the program on abstract values, and the plain law. -/
import Derived.Test.YtmedmnondjmleaaGreatQ14
set_option linter.unusedVariables false
set_option linter.unusedSimpArgs false
set_option maxRecDepth 100000
namespace Go.Vx
open Go.Proofs
mutual
def wlk:Ro→Int→Int×Int→Bool×(Int×Int)
 | .mk l,lv,(c,d)=>if c+1≤4000 then (if lv≤100 then Xq l (lv+1) (c+1,max d lv) else (true,(c+1,max d lv))) else (false,(c+1,d))
def Xq:List Ro→Int→Int×Int→Bool×(Int×Int)
 | [],_,st=>(true,st)
 | t::r,lv,st=>match wlk t lv st with
   | (true,st')=>Xq r lv st'
   | (false,st')=>(false,st')
end
def S2 (σ:Store)(a b:Nat)(st:Int×Int):Store:=(σ.set a (.cells [vi st.1])).set b (.cells [vi st.2])
theorem GG {σ:Store}{a b:Nat}{x y:AObj}(h:a≠b):(σ.set a x).set b y=(σ.set b y).set a x:=by
 induction σ with
 | nil=>rfl
 | cons p r ih =>
   obtain ⟨c,z⟩:=p
   simp only [Store.set]
   by_cases e1:c=a
   ·have e2:¬ c=b:=fun e=>h (e1 ▸ e)
    simp [e1,e2,Store.set,h]
   ·by_cases e2:c=b
    ·simp [e1,e2,Store.set,Ne.symm h]
    ·simp [e1,e2,Store.set,ih]
section
variable {σ:Store} {a b:Nat} {c d c' d':Int}
theorem SN (hb:σ.get b=some (.cells [vi d]))(h:a≠b):σ.set a (.cells [vi c])=S2 σ a b (c,d):=by
 unfold S2;exact (Yy (by rw [Zb (Ne.symm h)];exact hb)).symm
theorem Bg:(S2 σ a b (c,d)).set b (.cells [vi d'])=S2 σ a b (c,d'):=by
 unfold S2;rw [Zw]
theorem BL (h:a≠b){st st':Int×Int}:S2 (S2 σ a b st) a b st'=S2 σ a b st':=by
 unfold S2;rw [GG (Ne.symm h),Zw,Zw]
theorem Rj {x:AObj}(ha:σ.get a=some x)(h:a≠b)(st:Int×Int):(S2 σ a b st).get a=some (.cells [vi st.1]):=by
 unfold S2;rw [Zb h,Zd ha]
theorem Ri {x:AObj}(hb:σ.get b=some x)(h:a≠b)(st:Int×Int):(S2 σ a b st).get b=some (.cells [vi st.2]):=by
 unfold S2;exact Zd (x:=x) (by rw [Zb (Ne.symm h)];exact hb)
theorem Sd {k:Nat}(h1:k≠a)(h2:k≠b)(st:Int×Int):(S2 σ a b st).get k=σ.get k:=by
 unfold S2;rw [Zb h2,Zb h1]
end
mutual
theorem BN:∀ (t:Ro) (lv:Int) (st:Int×Int),0≤st.1→st.1≤4000→0≤st.2→st.2≤101→lv≤101→(wlk t lv st).1=true→0≤(wlk t lv st).2.1∧(wlk t lv st).2.1≤4000∧0≤(wlk t lv st).2.2∧(wlk t lv st).2.2≤101
 | .mk l,lv,(c,d),h1,h2,h3,h4,h5,hk=>by
   simp only [wlk] at hk ⊢
   simp only at h1 h2 h3 h4
   by_cases e:c+1≤4000
   ·rw [if_pos e] at hk ⊢
    by_cases e2:lv≤100
    ·rw [if_pos e2] at hk ⊢
     exact Rv l (lv+1) (c+1,max d lv) (by simp only;omega) e (by simp only;omega) (by simp only;omega) (by omega) hk
    ·rw [if_neg e2]
     simp only
     omega
   ·rw [if_neg e] at hk;cases hk
theorem Rv:∀ (l:List Ro) (lv:Int) (st:Int×Int),0≤st.1→st.1≤4000→0≤st.2→st.2≤101→lv≤101→(Xq l lv st).1=true→0≤(Xq l lv st).2.1∧(Xq l lv st).2.1≤4000∧0≤(Xq l lv st).2.2∧(Xq l lv st).2.2≤101
 | [],lv,st,h1,h2,h3,h4,h5,hk=>by simp only [Xq];exact ⟨h1,h2,h3,h4⟩
 | t::r,lv,st,h1,h2,h3,h4,h5,hk=>by
   simp only [Xq] at hk ⊢
   have ht:=BN t lv st h1 h2 h3 h4 h5
   generalize wlk t lv st=p at hk ht ⊢
   obtain ⟨b,q⟩:=p
   cases b with
   | true=>exact Rv r lv q (ht rfl).1 (ht rfl).2.1 (ht rfl).2.2.1 (ht rfl).2.2.2 h5 hk
   | false=>cases hk
end
theorem PL (l:List Ro)(t:Ro)(lv:Int):∀ st st',Xq l lv st=(true,st')→Xq (l++[t]) lv st=wlk t lv st':=by
 induction l with
 | nil=>intro st st' h;simp only [Xq,Prod.mk.injEq,true_and] at h;subst h;simp only [List.nil_append,Xq];generalize wlk t lv st=p;obtain ⟨b,q⟩:=p;cases b<;>rfl
 | cons x r ih =>
   intro st st' h
   simp only [Xq,List.cons_append] at h ⊢
   generalize wlk x lv st=p at h ⊢
   obtain ⟨b,q⟩:=p
   cases b with
   | true=>exact ih q st' h
   | false=>simp at h
theorem PK (l:List Ro)(t:Ro)(r:List Ro)(lv:Int):∀ st st' st'',Xq l lv st=(true,st')→wlk t lv st'=(false,st'')→Xq (l++t::r) lv st=(false,st''):=by
 induction l with
 | nil=>intro st st' st'' h k;simp only [Xq,Prod.mk.injEq,true_and] at h;subst h;simp only [List.nil_append,Xq,k]
 | cons x r ih =>
   intro st st' st'' h k
   simp only [Xq,List.cons_append] at h ⊢
   generalize wlk x lv st=p at h ⊢
   obtain ⟨b,q⟩:=p
   cases b with
   | true=>exact ih q st' st'' h k
   | false=>simp at h
theorem J0 {σ:Store}{a b k:Nat}{x:AObj}{st:Int×Int}(h1:k≠a)(h2:k≠b):S2 ((k,x)::σ) a b st=(k,x)::S2 σ a b st:=by
 unfold S2;simp only [Store.set];rw [if_neg h1];simp only [Store.set];rw [if_neg h2]
mutual
def VV:Ro→Int→Int
 | .mk l,lv=>if lv≤100 then VD l (lv+1) lv else lv
def VD:List Ro→Int→Int→Int
 | [],_,o=>o
 | t::r,lv,o=>VD r lv (max o (VV t lv))
end
theorem QR (l:List Ro)(t:Ro)(lv:Int):∀ o,VD (l++[t]) lv o=max (VD l lv o) (VV t lv):=by
 induction l with
 | nil=>intro o;rfl
 | cons x r ih=>intro o;simp only [List.cons_append,VD];exact ih _
def Qg (t:Ro):Int×Int:=if (wlk t 1 (0,0)).1 then (wlk t 1 (0,0)).2 else ((wlk t 1 (0,0)).2.1,VV t 1)
def XZ (t:Ro):Int:=if 4000<(Qg t).1 then 2 else if 100<(Qg t).2 then 5 else 0
theorem TB:(Zh Tryz.prog 3=some 1)∧(Ze Tryz.prog 3=some false)∧(Zh Tryz.prog 163=some 1)∧(Ze Tryz.prog 163=some false)∧(Zh Tryz.prog 52=some 4)∧(Ze Tryz.prog 52=some true)∧(ZA Tryz.prog 33=some 52)∧(Zl Tryz.prog 52=some (.agg #[(.int .i64 0),(.int .i64 0),(.string ⟨#[]⟩),(.slice none 0 0)]))∧(Zh Tryz.prog 247=some 1)∧(Ze Tryz.prog 247=some false)∧(Tryz.prog.underlying 33=some (.slice 52)):=by
 refine ⟨?_,?_,?_,?_,?_,?_,?_,?_,?_,?_,?_⟩<;>first | trivial | kernel_rfl
theorem aQ:(Zz Tryz.prog 52 3=some 3)∧(Zh Tryz.prog 33=some 1)∧(Ze Tryz.prog 33=some false):=by
 refine ⟨?_,?_,?_⟩<;>first | trivial | kernel_rfl
theorem Ji:(Zl Tryz.prog 247=some .nilFunc)∧(Zh Tryz.prog 247=some 1)∧(Ze Tryz.prog 247=some false)∧(Zh Tryz.prog 52=some 4)∧(Ze Tryz.prog 52=some true):=by
 refine ⟨?_,?_,?_,?_,?_⟩<;>first | trivial | kernel_rfl
theorem Jk:(Zl Tryz.prog 3=some (.int .i64 0))∧(Zh Tryz.prog 52=some 4)∧(Ze Tryz.prog 52=some true)∧(Zh Tryz.prog 163=some 1)∧(Ze Tryz.prog 163=some false)∧(Zh Tryz.prog 3=some 1)∧(Ze Tryz.prog 3=some false):=by
 refine ⟨?_,?_,?_,?_,?_,?_,?_⟩<;>first | trivial | kernel_rfl
theorem RS:(Zh Tryz.prog 163=some 1)∧(Ze Tryz.prog 163=some false)∧(Zh Tryz.prog 52=some 4)∧(Ze Tryz.prog 52=some true)∧(ZA Tryz.prog 33=some 52)∧(Zl Tryz.prog 52=some (.agg #[(.int .i64 0),(.int .i64 0),(.string ⟨#[]⟩),(.slice none 0 0)]))∧(Zh Tryz.prog 174=some 1)∧(Ze Tryz.prog 174=some false)∧(Tryz.prog.underlying 33=some (.slice 52)):=by
 refine ⟨?_,?_,?_,?_,?_,?_,?_,?_,?_⟩<;>first | trivial | kernel_rfl
theorem Gh:(Zl Tryz.prog 174=some .nilFunc)∧(Zh Tryz.prog 174=some 1)∧(Ze Tryz.prog 174=some false)∧(Zh Tryz.prog 52=some 4)∧(Ze Tryz.prog 52=some true):=by
 refine ⟨?_,?_,?_,?_,?_⟩<;>first | trivial | kernel_rfl
theorem aA:(Zh Tryz.prog 52=some 4)∧(Ze Tryz.prog 52=some true):=by
 refine ⟨?_,?_⟩<;>first | trivial | kernel_rfl
theorem M2 (t:Tm):Pur Tryz.prog 100 [.agg t.emb] (.list .none 4 (cH t.kids)):=by
 intro σ
 obtain ⟨k,n,s,l⟩:=t
 simp only [co,Tm.kids]
 refine Zc [] [] Tryz.func100 rfl (by kernel_rfl) ?_;rw [Tryz.ntmps100,Tryz.results100]
 try simp only [go_sem,seval,aQ]
 exact Zu
def Ug (bn bd ba bw:Nat):Value:=.func (.func 184) #[] #[.pointer (some ⟨bn,0,none⟩),.pointer (some ⟨bd,0,none⟩),.pointer (some ⟨ba,0,none⟩),.pointer (some ⟨bw,0,none⟩)]
theorem J4 (bn bd ba bw:Nat)(h1:bn≠bd):∀ (t:Tm) (lv c d:Int) (σ:Store),1≤lv→lv≤101→0≤c→c≤4000→0≤d→d≤101 →
 σ.get bn=some (.cells [vi c])→σ.get bd=some (.cells [vi d])→σ.get ba=some (.cells [.val (.func (.func 100) #[] #[])])→σ.get bw=some (.cells [.val (Ug bn bd ba bw)]) →
 Zj Tryz.prog 184 [.agg t.emb,vi lv,.val (.pointer (some ⟨bn,0,none⟩)),.val (.pointer (some ⟨bd,0,none⟩)),.val (.pointer (some ⟨ba,0,none⟩)),.val (.pointer (some ⟨bw,0,none⟩))] σ
  (fun r σ'=>σ'=S2 σ bn bd (wlk t.shape lv (c,d)).2∧r=if (wlk t.shape lv (c,d)).1 then .ret (.tup []) else .pan (YE 2)):=by
 intro t
 induction t using dE with | h k n s l ih=>?_
 intro lv c d σ hl1 hl2 hc0 hc1 hd0 hd1 gn gd ga gw
 refine Zj.ok (by kernel_rfl) (fun hok=>?_)
 have hlen:=(((hok _ List.mem_cons_self).agg (c:=.list .none 4 (cH l)) (by simp [co])).len)
 rw [ci] at hlen
 clear hok
 simp only [co]
 have n1:ba≠bn:=by intro e;rw [e,gn] at ga;simp at ga
 have n2:ba≠bd:=by intro e;rw [e,gd] at ga;simp at ga
 have n3:bw≠bn:=by intro e;rw [e,gn] at gw;simp [Ug] at gw
 have n4:bw≠bd:=by intro e;rw [e,gd] at gw;simp [Ug] at gw
 have hwc:IntKind.i64.wrap (c+1)=c+1:=Zp (by omega) (by omega)
 have hwl:IntKind.i64.wrap (lv+1)=lv+1:=Zp (by omega) (by omega)
 refine Zc [] [] Tryz.func184 rfl (by kernel_rfl) ?_;rw [Tryz.ntmps184,Tryz.results184]
 refine iD ?_
 refine VA (fun hm=>?_) (fun hm=>?_)
 ·have hm:c+1≤4000:=by simpa (disch:=omega) only [Zp,decide_eq_true_eq] using hm
  refine iD ?_
  refine ⟨fun hlv=>?_,fun hlv=>?_⟩
  ·refine (M2 (.mk k n s l)).use ?_
   try simp only [go_sem,seval,TB,gn,gd,ga,gw,h1,Ne.symm h1,n1,n2,n3,n4,hwc,hwl,Tm.kids]
   rw [SN (d:=d) gd h1,Bg]
   have hsh:(wlk (Tm.mk k n s l).shape lv (c,d))=Xq (cU l) (lv+1) (c+1,max d lv):=by
    simp only [Tm.shape,wlk,if_pos hm,if_pos hlv]
   rw [hsh]
   refine Zv (mu:=[6]) (dr:=[]) [9,24,25,26,27,28,29,30,31,32,33] (fun x:Nat×(Int×Int)=>[(24,vi x.1)]) (fun x=>S2 σ bn bd x.2)
    (fun x=>x.1≤l.length∧Xq (cU (l.take x.1)) (lv+1) (c+1,max d lv)=(true,x.2)) (fun x=>l.length-x.1) (0,(c+1,max d lv)) (by kernel_rfl) ⟨by simp,by simp [cU,Xq]⟩ ?_ (.refl _) ?_
   ·exact ⟨.refl _,trivial⟩
   ·rintro ⟨i,st⟩ ⟨hi,hst⟩
    dsimp only at hi hst
    have hb:=Rv (cU (l.take i)) (lv+1) (c+1,max d lv) (by dsimp only;omega) (by dsimp only;omega) (by dsimp only;omega) (by dsimp only;omega) (by omega) (by rw [hst])
    rw [hst] at hb
    dsimp only at hb
    obtain ⟨c1,d1⟩:=st
    dsimp only at hb
    try simp only [go_sem,seval,TB,ci,Rj gn h1,Ri gd h1,Sd n1 n2,Sd n3 n4,ga,gw,hwl]
    refine ⟨fun hi2=>⟨by omega,hi2,fun e he=>?_⟩,fun hi2=>?_⟩
    ·rw [Int.toNat_natCast] at he
     obtain ⟨a,ha,rfl⟩:=cR he
     have iha:=ih a (List.mem_of_getElem? ha)
     obtain ⟨ka,na,sa,la⟩:=a
     try simp only [go_sem,seval,TB,co]
     intro b9 hb9
     have m1:=Zt hb9 (Rj gn h1 (c1,d1))
     have m2:=Zt hb9 (Ri gd h1 (c1,d1))
     have m4:=Zt hb9 ((Sd n3 n4 (c1,d1)).trans gw)
     try simp only [go_sem,seval,TB,co,m1,m2,m4,Rj gn h1,Ri gd h1,Sd n1 n2,Sd n3 n4,ga,gw,hwl,Ug]
     have hsplit:=Ys ha
     refine ((iha (lv+1) c1 d1 (S2 σ bn bd (c1,d1)) (by omega) (by omega) hb.1 hb.2.1 hb.2.2.1 hb.2.2.2 (Rj gn h1 _) (Ri gd h1 _) ((Sd n1 n2 _).trans ga) ((Sd n3 n4 _).trans gw)).sub (.cons _ _)).mono ?_
     rintro r _ ⟨rfl,rfl⟩
     rw [BL h1]
     have hsn:∀ x:Tm,cU (l.take i++[x])=cU (l.take i)++[x.shape]:=fun x=>by simp [dq]
     generalize hw:wlk (Tm.mk ka na sa la).shape (lv+1) (c1,d1)=p
     obtain ⟨b,q⟩:=p
     cases b with
     | true =>
       try simp only [go_sem,seval,TB]
       have hw64:IntKind.i64.wrap ((i:Int)+1)=((i+1:Nat):Int):=Zp (by omega) (by omega)
       rw [hw64]
       refine .mk (i+1,q) ⟨by omega,?_⟩ (by dsimp only;omega) ⟨.refl _,trivial⟩ ?_ (.refl _)
       ·rw [List.take_add_one,ha]
        simp only [Option.toList_some]
        rw [hsn,PL _ _ _ _ _ hst,hw]
       ·repeat refine Zf.put rfl ?_
        exact ig
     | false =>
       try simp only [go_sem,seval,TB]
       have he:Xq (cU l) (lv+1) (c+1,max d lv)=(false,q):=by
        rw [hsplit,dq,List.map_append,List.map_cons,← dq]
        exact PK _ _ _ _ _ _ _ hst hw
       rw [he]
       exact iR
    ·have hil:l.take i=l:=List.take_of_length_le (by omega)
     rw [hil] at hst
     rw [hst]
     exact gG
  ·rw [SN (d:=d) gd h1,Bg]
   refine .mk (.refl _) (.refl _) ?_
   simp only [Tm.shape,wlk,if_pos hm,if_neg hlv,if_true,and_self]
 ·have hm:¬ c+1≤4000:=by simpa (disch:=omega) only [Zp,decide_eq_false_iff_not] using hm
  refine iD ?_
  rw [SN (d:=d) gd h1]
  refine .mk (.refl _) ?_
  simp only [Tm.shape,wlk,if_neg hm,Bool.false_eq_true,if_false,and_self]
abbrev V0:Value:=.func (.func 100) #[] #[]
theorem Lv (bn bd ba bt:Nat)(h1:bn≠bd)(t:Tm)(σ:Store)(gn:σ.get bn=some (.cells [vi 0]))(gd:σ.get bd=some (.cells [vi 0]))(ga:σ.get ba=some (.cells [.val V0]))(gt:σ.get bt=some (.cells t.emb)) :
 Zj Tryz.prog 183 [.val (.pointer (some ⟨bn,0,none⟩)),.val (.pointer (some ⟨bd,0,none⟩)),.val (.pointer (some ⟨ba,0,none⟩)),.val (.pointer (some ⟨bt,0,none⟩))] σ
  (fun r σ'=>σ'=S2 σ bn bd (wlk t.shape 1 (0,0)).2∧r=if (wlk t.shape 1 (0,0)).1 then .ret (.tup []) else .pan (YE 2)):=by
 obtain ⟨k,n,s,l⟩:=t
 simp only [co] at gt
 refine Zc [] [] Tryz.func183 rfl (by kernel_rfl) ?_;rw [Tryz.ntmps183,Tryz.results183]
 try simp only [go_sem,seval,Ji]
 intro bw hbw
 have m1:=Zt hbw gn
 have m2:=Zt hbw gd
 have m3:=Zt hbw ga
 have m4:=Zt hbw gt
 try simp only [go_sem,seval,Ji,m1,m2,m3,m4,gt]
 refine (J4 bn bd ba bw h1 (.mk k n s l) 1 0 0 _ (by omega) (by omega) (by omega) (by omega) (by omega) (by omega) (by simp only [Store.get,if_neg m1];exact gn) (by simp only [Store.get,if_neg m2];exact gd) (by simp only [Store.get,if_neg m3];exact ga) (by simp only [Store.get,if_true,Ug])).mono ?_
 rintro r _ ⟨rfl,rfl⟩
 rw [J0 m1 m2]
 cases (wlk (Tm.mk k n s l).shape 1 (0,0)).1 with
 | true =>
   try simp only [go_sem,seval,Ji]
   exact ik
 | false =>
   try simp only [go_sem,seval,Ji]
   exact .mk (.cons _ _) ⟨rfl,rfl⟩
def QT (ba bw:Nat):Value:=.func (.func 237) #[] #[.pointer (some ⟨ba,0,none⟩),.pointer (some ⟨bw,0,none⟩)]
theorem Kw (ba bw:Nat):∀ (t:Tm) (lv:Int) (σ:Store),1≤lv→lv≤101→σ.get ba=some (.cells [.val V0])→σ.get bw=some (.cells [.val (QT ba bw)]) →
 Zj Tryz.prog 237 [.agg t.emb,vi lv,.val (.pointer (some ⟨ba,0,none⟩)),.val (.pointer (some ⟨bw,0,none⟩))] σ (Z8 (vi (VV t.shape lv)) σ):=by
 intro t
 induction t using dE with | h k n s l ih=>?_
 intro lv σ hl1 hl2 ga gw
 refine Zj.ok (by kernel_rfl) (fun hok=>?_)
 have hlen:=(((hok _ List.mem_cons_self).agg (c:=.list .none 4 (cH l)) (by simp [co])).len)
 rw [ci] at hlen
 clear hok
 simp only [co]
 have hwl:IntKind.i64.wrap (lv+1)=lv+1:=Zp (by omega) (by omega)
 refine Zc [] [] Tryz.func237 rfl (by kernel_rfl) ?_;rw [Tryz.ntmps237,Tryz.results237]
 try simp only [go_sem,seval,RS]
 refine ⟨fun hlv=>?_,fun hlv=>?_⟩
 ·try simp only [go_sem,seval,RS,ga,gw]
  refine (M2 (.mk k n s l)).use ?_
  try simp only [go_sem,seval,RS,Tm.kids]
  have hsh:VV (Tm.mk k n s l).shape lv=VD (cU l) (lv+1) lv:=by simp only [Tm.shape,VV,if_pos hlv]
  rw [hsh]
  refine Zv (mu:=[]) (dr:=[]) [7,9,17,18,19,20,21,22,23,24,25,26,27,28] (fun i:Nat=>[(17,vi i),(7,vi (VD (cU (l.take i)) (lv+1) lv))]) (fun _=>σ)
   (fun i=>i≤l.length) (fun i=>l.length-i) 0 (by kernel_rfl) (by omega) ⟨.refl _,.refl _,trivial⟩ (.refl _) ?_
  intro i hi
  try simp only [go_sem,seval,RS,ci,ga,gw,hwl]
  refine ⟨fun hi2=>⟨by omega,hi2,fun e he=>?_⟩,fun hi2=>?_⟩
  ·rw [Int.toNat_natCast] at he
   obtain ⟨a,ha,rfl⟩:=cR he
   have iha:=ih a (List.mem_of_getElem? ha)
   obtain ⟨kb,nb,sb,lb⟩:=a
   try simp only [go_sem,seval,RS,co]
   intro b9 hb9
   have m1:=Zt hb9 ga
   have m2:=Zt hb9 gw
   try simp only [go_sem,seval,RS,co,m1,m2,ga,gw,hwl,QT]
   refine ((iha (lv+1) σ (by omega) (by omega) ga gw).sub (.cons _ _)).mono ?_
   rintro r _ ⟨rfl,rfl⟩
   try simp only [go_sem,seval,RS]
   have hw64:IntKind.i64.wrap ((i:Int)+1)=((i+1:Nat):Int):=Zp (by omega) (by omega)
   rw [hw64]
   have hsn:VD (cU (l.take (i+1))) (lv+1) lv=max (VD (cU (l.take i)) (lv+1) lv) (VV (Tm.mk kb nb sb lb).shape (lv+1)):=by
    rw [List.take_add_one,ha]
    simp only [Option.toList_some,dq,List.map_append,List.map_cons,List.map_nil]
    rw [QR]
   refine .mk (i+1) (by omega) (by omega) ⟨.refl _,?_,trivial⟩ ?_ (.refl _)
   ·rw [hsn];exact .refl _
   ·repeat refine Zf.put rfl ?_
    exact ig
  ·have hil:l.take i=l:=List.take_of_length_le (by omega)
   rw [hil]
   exact Zu
 ·have hsh:VV (Tm.mk k n s l).shape lv=lv:=by simp only [Tm.shape,VV,if_neg hlv]
  rw [hsh]
  exact Zu
theorem Nl (t:Tm):Pur Tryz.prog 185 [.agg t.emb,.val V0] (vi (VV t.shape 1)):=by
 intro σ
 obtain ⟨k,n,s,l⟩:=t
 simp only [co]
 refine Zc [2,3] [] Tryz.func185 rfl (by kernel_rfl) ?_;rw [Tryz.ntmps185,Tryz.results185]
 try simp only [go_sem,seval,Gh]
 rintro b hb b1 ⟨m1,hb1⟩ b2 ⟨m2,m3,hb2⟩
 try simp only [go_sem,seval,Gh,m1,m2,m3,Ne.symm m1,Ne.symm m2,Ne.symm m3]
 refine (Kw b1 b2 (.mk k n s l) 1 _ (by omega) (by omega) (by simp only [Store.get,if_neg (Ne.symm m2),if_true]) (by simp only [Store.get,if_true,QT])).mono ?_
 rintro r _ ⟨rfl,rfl⟩
 try simp only [go_sem,seval,Gh]
 exact ZE (.refl _) (((Sub.refl σ).skip _).skip _ |>.skip _)
theorem Pn (t:Tm):Pur Tryz.prog 138 [.agg t.emb,.val V0] (.tup [vi (Qg t.shape).1,vi (Qg t.shape).2]):=by
 intro σ
 obtain ⟨k,n,s,l⟩:=t
 simp only [co]
 refine Zc [2,3] [(3,2,1)] Tryz.func138 rfl (by kernel_rfl) ?_;rw [Tryz.ntmps138,Tryz.results138]
 try simp only [go_sem,seval,Jk]
 rintro b2 hb2 b3 ⟨m23,hb3⟩ b4 ⟨m34,m24,hb4⟩ b5 ⟨m45,m35,m25,hb5⟩
 refine UQ _ _ _ (fun b ⟨q5,q4,q3,q2,hb⟩=>?_)
 rw [Y5]
 have h1:b4≠b5:=m45
 refine (Lv b4 b5 b3 b2 m45 (.mk k n s l) _ ?_ ?_ ?_ ?_).mono ?_
 ·simp [Store.get,Ne.symm q4,m45,Ne.symm m45]
 ·simp [Store.get,Ne.symm q5]
 ·simp [Store.get,Ne.symm q3,Ne.symm m35,Ne.symm m34]
 ·simp [Store.get,co,Ne.symm q2,Ne.symm m25,Ne.symm m24,Ne.symm m23]
 rintro r _ ⟨rfl,rfl⟩
 have hst:∀ st:Int×Int,S2 ((b,AObj.cells [vi 0])::(b5,.cells [vi 0])::(b4,.cells [vi 0])::(b3,.cells [.val V0])::(b2,.cells (Tm.mk k n s l).emb)::σ) b4 b5 st=(b,.cells [vi 0])::(b5,.cells [vi st.2])::(b4,.cells [vi st.1])::(b3,.cells [.val V0])::(b2,.cells (Tm.mk k n s l).emb)::σ:=by
  intro st
  simp [S2,Store.set,Ne.symm q4,Ne.symm q5,Ne.symm m45]
 refine ⟨_,hst _,?_⟩
 have hm:Qg (Tm.mk k n s l).shape=if (wlk (Tm.mk k n s l).shape 1 (0,0)).1 then (wlk (Tm.mk k n s l).shape 1 (0,0)).2 else ((wlk (Tm.mk k n s l).shape 1 (0,0)).2.1,VV (Tm.mk k n s l).shape 1):=rfl
 rw [hm]
 generalize wlk (Tm.mk k n s l).shape 1 (0,0)=p
 obtain ⟨ok,c,d⟩:=p
 have e45:=Ne.symm m45
 have e34:=Ne.symm m34
 have e35:=Ne.symm m35
 have e24:=Ne.symm m24
 have e25:=Ne.symm m25
 have e23:=Ne.symm m23
 cases ok with
 | true =>
   try simp only [go_sem,seval,Jk,m23,m34,m24,m45,m35,m25,e23,e34,e24,e45,e35,e25]
   refine .mk (.refl _) ?_ ⟨rfl,rfl⟩
   repeat first | exact .refl _ | refine .skip _ ?_
 | false =>
   refine ⟨2,rfl,?_⟩
   try simp only [go_sem,seval,Jk,m23,m34,m24,m45,m35,m25,e23,e34,e24,e45,e35,e25,co]
   refine (Nl (.mk k n s l)).use ?_
   try simp only [go_sem,seval,Jk,m23,m34,m24,m45,m35,m25,e23,e34,e24,e45,e35,e25,co]
   refine .mk (.refl _) ?_ ⟨rfl,rfl⟩
   repeat first | exact .refl _ | refine .skip _ ?_
theorem LH (t:Tm):Pur Tryz.prog 99 [.agg t.emb,.val V0] (vi (XZ t.shape)):=by
 intro σ
 have hm:=Pn t
 obtain ⟨k,n,s,l⟩:=t
 simp only [co] at hm ⊢
 refine Zc [] [] Tryz.func99 rfl (by kernel_rfl) ?_;rw [Tryz.ntmps99,Tryz.results99]
 try simp only [go_sem,seval,aA]
 refine hm.use ?_
 unfold XZ
 generalize Qg (Tm.mk k n s l).shape=p
 try simp only [go_sem,seval,aA]
 refine ⟨fun h=>?_,fun h=>⟨fun h2=>?_,fun h2=>?_⟩⟩
 ·rw [if_pos h];exact Zu
 ·rw [if_neg h,if_pos h2];exact Zu
 ·rw [if_neg h,if_neg h2];exact Zu
theorem TA:(Zh Tryz.prog 3=some 1)∧(Ze Tryz.prog 3=some false)∧(Zh Tryz.prog 269=some 1)∧(Ze Tryz.prog 269=some false)∧(Zh Tryz.prog 150=some 2)∧(Ze Tryz.prog 150=some true)∧(ZA Tryz.prog 126=some 150)∧(Zl Tryz.prog 150=some (.agg #[(.string ⟨#[]⟩),(.slice none 0 0)]))∧(Zh Tryz.prog 305=some 1)∧(Ze Tryz.prog 305=some false)∧(Tryz.prog.underlying 126=some (.slice 150)):=by
 refine ⟨?_,?_,?_,?_,?_,?_,?_,?_,?_,?_,?_⟩<;>first | trivial | kernel_rfl
theorem aM:(Zz Tryz.prog 150 1=some 1)∧(Zh Tryz.prog 126=some 1)∧(Ze Tryz.prog 126=some false):=by
 refine ⟨?_,?_,?_⟩<;>first | trivial | kernel_rfl
theorem Jc:(Zl Tryz.prog 305=some .nilFunc)∧(Zh Tryz.prog 305=some 1)∧(Ze Tryz.prog 305=some false)∧(Zh Tryz.prog 150=some 2)∧(Ze Tryz.prog 150=some true):=by
 refine ⟨?_,?_,?_,?_,?_⟩<;>first | trivial | kernel_rfl
theorem Je:(Zl Tryz.prog 3=some (.int .i64 0))∧(Zh Tryz.prog 150=some 2)∧(Ze Tryz.prog 150=some true)∧(Zh Tryz.prog 269=some 1)∧(Ze Tryz.prog 269=some false)∧(Zh Tryz.prog 3=some 1)∧(Ze Tryz.prog 3=some false):=by
 refine ⟨?_,?_,?_,?_,?_,?_,?_⟩<;>first | trivial | kernel_rfl
theorem RO:(Zh Tryz.prog 269=some 1)∧(Ze Tryz.prog 269=some false)∧(Zh Tryz.prog 150=some 2)∧(Ze Tryz.prog 150=some true)∧(ZA Tryz.prog 126=some 150)∧(Zl Tryz.prog 150=some (.agg #[(.string ⟨#[]⟩),(.slice none 0 0)]))∧(Zh Tryz.prog 253=some 1)∧(Ze Tryz.prog 253=some false)∧(Tryz.prog.underlying 126=some (.slice 150)):=by
 refine ⟨?_,?_,?_,?_,?_,?_,?_,?_,?_⟩<;>first | trivial | kernel_rfl
theorem Gc:(Zl Tryz.prog 253=some .nilFunc)∧(Zh Tryz.prog 253=some 1)∧(Ze Tryz.prog 253=some false)∧(Zh Tryz.prog 150=some 2)∧(Ze Tryz.prog 150=some true):=by
 refine ⟨?_,?_,?_,?_,?_⟩<;>first | trivial | kernel_rfl
theorem Br:(Zh Tryz.prog 150=some 2)∧(Ze Tryz.prog 150=some true):=by
 refine ⟨?_,?_⟩<;>first | trivial | kernel_rfl
theorem M1 (t:Ty):Pur Tryz.prog 209 [.agg t.emb] (.list .none 2 (cJ t.kids)):=by
 intro σ
 obtain ⟨s,l⟩:=t
 simp only [cG,Ty.kids]
 refine Zc [] [] Tryz.func209 rfl (by kernel_rfl) ?_;rw [Tryz.ntmps209,Tryz.results209]
 try simp only [go_sem,seval,aM]
 exact Zu
def Uf (bn bd ba bw:Nat):Value:=.func (.func 266) #[] #[.pointer (some ⟨bn,0,none⟩),.pointer (some ⟨bd,0,none⟩),.pointer (some ⟨ba,0,none⟩),.pointer (some ⟨bw,0,none⟩)]
theorem J3 (bn bd ba bw:Nat)(h1:bn≠bd):∀ (t:Ty) (lv c d:Int) (σ:Store),1≤lv→lv≤101→0≤c→c≤4000→0≤d→d≤101 →
 σ.get bn=some (.cells [vi c])→σ.get bd=some (.cells [vi d])→σ.get ba=some (.cells [.val (.func (.func 209) #[] #[])])→σ.get bw=some (.cells [.val (Uf bn bd ba bw)]) →
 Zj Tryz.prog 266 [.agg t.emb,vi lv,.val (.pointer (some ⟨bn,0,none⟩)),.val (.pointer (some ⟨bd,0,none⟩)),.val (.pointer (some ⟨ba,0,none⟩)),.val (.pointer (some ⟨bw,0,none⟩))] σ
  (fun r σ'=>σ'=S2 σ bn bd (wlk t.shape lv (c,d)).2∧r=if (wlk t.shape lv (c,d)).1 then .ret (.tup []) else .pan (YE 2)):=by
 intro t
 induction t using dI with | h s l ih=>?_
 intro lv c d σ hl1 hl2 hc0 hc1 hd0 hd1 gn gd ga gw
 refine Zj.ok (by kernel_rfl) (fun hok=>?_)
 have hlen:=(((hok _ List.mem_cons_self).agg (c:=.list .none 2 (cJ l)) (by simp [cG])).len)
 rw [cj] at hlen
 clear hok
 simp only [cG]
 have n1:ba≠bn:=by intro e;rw [e,gn] at ga;simp at ga
 have n2:ba≠bd:=by intro e;rw [e,gd] at ga;simp at ga
 have n3:bw≠bn:=by intro e;rw [e,gn] at gw;simp [Uf] at gw
 have n4:bw≠bd:=by intro e;rw [e,gd] at gw;simp [Uf] at gw
 have hwc:IntKind.i64.wrap (c+1)=c+1:=Zp (by omega) (by omega)
 have hwl:IntKind.i64.wrap (lv+1)=lv+1:=Zp (by omega) (by omega)
 refine Zc [] [] Tryz.func266 rfl (by kernel_rfl) ?_;rw [Tryz.ntmps266,Tryz.results266]
 refine iE ?_
 refine VA (fun hm=>?_) (fun hm=>?_)
 ·have hm:c+1≤4000:=by simpa (disch:=omega) only [Zp,decide_eq_true_eq] using hm
  refine iE ?_
  refine ⟨fun hlv=>?_,fun hlv=>?_⟩
  ·refine (M1 (.mk s l)).use ?_
   try simp only [go_sem,seval,TA,gn,gd,ga,gw,h1,Ne.symm h1,n1,n2,n3,n4,hwc,hwl,Ty.kids]
   rw [SN (d:=d) gd h1,Bg]
   have hsh:(wlk (Ty.mk s l).shape lv (c,d))=Xq (cY l) (lv+1) (c+1,max d lv):=by
    simp only [Ty.shape,wlk,if_pos hm,if_pos hlv]
   rw [hsh]
   refine Zv (mu:=[6]) (dr:=[]) [9,24,25,26,27,28,29,30,31,32,33] (fun x:Nat×(Int×Int)=>[(24,vi x.1)]) (fun x=>S2 σ bn bd x.2)
    (fun x=>x.1≤l.length∧Xq (cY (l.take x.1)) (lv+1) (c+1,max d lv)=(true,x.2)) (fun x=>l.length-x.1) (0,(c+1,max d lv)) (by kernel_rfl) ⟨by simp,by simp [cY,Xq]⟩ ?_ (.refl _) ?_
   ·exact ⟨.refl _,trivial⟩
   ·rintro ⟨i,st⟩ ⟨hi,hst⟩
    dsimp only at hi hst
    have hb:=Rv (cY (l.take i)) (lv+1) (c+1,max d lv) (by dsimp only;omega) (by dsimp only;omega) (by dsimp only;omega) (by dsimp only;omega) (by omega) (by rw [hst])
    rw [hst] at hb
    dsimp only at hb
    obtain ⟨c1,d1⟩:=st
    dsimp only at hb
    try simp only [go_sem,seval,TA,cj,Rj gn h1,Ri gd h1,Sd n1 n2,Sd n3 n4,ga,gw,hwl]
    refine ⟨fun hi2=>⟨by omega,hi2,fun e he=>?_⟩,fun hi2=>?_⟩
    ·rw [Int.toNat_natCast] at he
     obtain ⟨a,ha,rfl⟩:=cX he
     have iha:=ih a (List.mem_of_getElem? ha)
     obtain ⟨sa,la⟩:=a
     try simp only [go_sem,seval,TA,cG]
     intro b9 hb9
     have m1:=Zt hb9 (Rj gn h1 (c1,d1))
     have m2:=Zt hb9 (Ri gd h1 (c1,d1))
     have m4:=Zt hb9 ((Sd n3 n4 (c1,d1)).trans gw)
     try simp only [go_sem,seval,TA,cG,m1,m2,m4,Rj gn h1,Ri gd h1,Sd n1 n2,Sd n3 n4,ga,gw,hwl,Uf]
     have hsplit:=Ys ha
     refine ((iha (lv+1) c1 d1 (S2 σ bn bd (c1,d1)) (by omega) (by omega) hb.1 hb.2.1 hb.2.2.1 hb.2.2.2 (Rj gn h1 _) (Ri gd h1 _) ((Sd n1 n2 _).trans ga) ((Sd n3 n4 _).trans gw)).sub (.cons _ _)).mono ?_
     rintro r _ ⟨rfl,rfl⟩
     rw [BL h1]
     have hsn:∀ x:Ty,cY (l.take i++[x])=cY (l.take i)++[x.shape]:=fun x=>by simp [dp]
     generalize hw:wlk (Ty.mk sa la).shape (lv+1) (c1,d1)=p
     obtain ⟨b,q⟩:=p
     cases b with
     | true =>
       try simp only [go_sem,seval,TA]
       have hw64:IntKind.i64.wrap ((i:Int)+1)=((i+1:Nat):Int):=Zp (by omega) (by omega)
       rw [hw64]
       refine .mk (i+1,q) ⟨by omega,?_⟩ (by dsimp only;omega) ⟨.refl _,trivial⟩ ?_ (.refl _)
       ·rw [List.take_add_one,ha]
        simp only [Option.toList_some]
        rw [hsn,PL _ _ _ _ _ hst,hw]
       ·repeat refine Zf.put rfl ?_
        exact ig
     | false =>
       try simp only [go_sem,seval,TA]
       have he:Xq (cY l) (lv+1) (c+1,max d lv)=(false,q):=by
        rw [hsplit,dp,List.map_append,List.map_cons,← dp]
        exact PK _ _ _ _ _ _ _ hst hw
       rw [he]
       exact iR
    ·have hil:l.take i=l:=List.take_of_length_le (by omega)
     rw [hil] at hst
     rw [hst]
     exact gG
  ·rw [SN (d:=d) gd h1,Bg]
   refine .mk (.refl _) (.refl _) ?_
   simp only [Ty.shape,wlk,if_pos hm,if_neg hlv,if_true,and_self]
 ·have hm:¬ c+1≤4000:=by simpa (disch:=omega) only [Zp,decide_eq_false_iff_not] using hm
  refine iE ?_
  rw [SN (d:=d) gd h1]
  refine .mk (.refl _) ?_
  simp only [Ty.shape,wlk,if_neg hm,Bool.false_eq_true,if_false,and_self]
abbrev VZ:Value:=.func (.func 209) #[] #[]
theorem Lu (bn bd ba bt:Nat)(h1:bn≠bd)(t:Ty)(σ:Store)(gn:σ.get bn=some (.cells [vi 0]))(gd:σ.get bd=some (.cells [vi 0]))(ga:σ.get ba=some (.cells [.val VZ]))(gt:σ.get bt=some (.cells t.emb)) :
 Zj Tryz.prog 265 [.val (.pointer (some ⟨bn,0,none⟩)),.val (.pointer (some ⟨bd,0,none⟩)),.val (.pointer (some ⟨ba,0,none⟩)),.val (.pointer (some ⟨bt,0,none⟩))] σ
  (fun r σ'=>σ'=S2 σ bn bd (wlk t.shape 1 (0,0)).2∧r=if (wlk t.shape 1 (0,0)).1 then .ret (.tup []) else .pan (YE 2)):=by
 obtain ⟨s,l⟩:=t
 simp only [cG] at gt
 refine Zc [] [] Tryz.func265 rfl (by kernel_rfl) ?_;rw [Tryz.ntmps265,Tryz.results265]
 try simp only [go_sem,seval,Jc]
 intro bw hbw
 have m1:=Zt hbw gn
 have m2:=Zt hbw gd
 have m3:=Zt hbw ga
 have m4:=Zt hbw gt
 try simp only [go_sem,seval,Jc,m1,m2,m3,m4,gt]
 refine (J3 bn bd ba bw h1 (.mk s l) 1 0 0 _ (by omega) (by omega) (by omega) (by omega) (by omega) (by omega) (by simp only [Store.get,if_neg m1];exact gn) (by simp only [Store.get,if_neg m2];exact gd) (by simp only [Store.get,if_neg m3];exact ga) (by simp only [Store.get,if_true,Uf])).mono ?_
 rintro r _ ⟨rfl,rfl⟩
 rw [J0 m1 m2]
 cases (wlk (Ty.mk s l).shape 1 (0,0)).1 with
 | true =>
   try simp only [go_sem,seval,Jc]
   exact ik
 | false =>
   try simp only [go_sem,seval,Jc]
   exact .mk (.cons _ _) ⟨rfl,rfl⟩
def QS (ba bw:Nat):Value:=.func (.func 272) #[] #[.pointer (some ⟨ba,0,none⟩),.pointer (some ⟨bw,0,none⟩)]
theorem Kv (ba bw:Nat):∀ (t:Ty) (lv:Int) (σ:Store),1≤lv→lv≤101→σ.get ba=some (.cells [.val VZ])→σ.get bw=some (.cells [.val (QS ba bw)]) →
 Zj Tryz.prog 272 [.agg t.emb,vi lv,.val (.pointer (some ⟨ba,0,none⟩)),.val (.pointer (some ⟨bw,0,none⟩))] σ (Z8 (vi (VV t.shape lv)) σ):=by
 intro t
 induction t using dI with | h s l ih=>?_
 intro lv σ hl1 hl2 ga gw
 refine Zj.ok (by kernel_rfl) (fun hok=>?_)
 have hlen:=(((hok _ List.mem_cons_self).agg (c:=.list .none 2 (cJ l)) (by simp [cG])).len)
 rw [cj] at hlen
 clear hok
 simp only [cG]
 have hwl:IntKind.i64.wrap (lv+1)=lv+1:=Zp (by omega) (by omega)
 refine Zc [] [] Tryz.func272 rfl (by kernel_rfl) ?_;rw [Tryz.ntmps272,Tryz.results272]
 try simp only [go_sem,seval,RO]
 refine ⟨fun hlv=>?_,fun hlv=>?_⟩
 ·try simp only [go_sem,seval,RO,ga,gw]
  refine (M1 (.mk s l)).use ?_
  try simp only [go_sem,seval,RO,Ty.kids]
  have hsh:VV (Ty.mk s l).shape lv=VD (cY l) (lv+1) lv:=by simp only [Ty.shape,VV,if_pos hlv]
  rw [hsh]
  refine Zv (mu:=[]) (dr:=[]) [7,9,17,18,19,20,21,22,23,24,25,26,27,28] (fun i:Nat=>[(17,vi i),(7,vi (VD (cY (l.take i)) (lv+1) lv))]) (fun _=>σ)
   (fun i=>i≤l.length) (fun i=>l.length-i) 0 (by kernel_rfl) (by omega) ⟨.refl _,.refl _,trivial⟩ (.refl _) ?_
  intro i hi
  try simp only [go_sem,seval,RO,cj,ga,gw,hwl]
  refine ⟨fun hi2=>⟨by omega,hi2,fun e he=>?_⟩,fun hi2=>?_⟩
  ·rw [Int.toNat_natCast] at he
   obtain ⟨a,ha,rfl⟩:=cX he
   have iha:=ih a (List.mem_of_getElem? ha)
   obtain ⟨sb,lb⟩:=a
   try simp only [go_sem,seval,RO,cG]
   intro b9 hb9
   have m1:=Zt hb9 ga
   have m2:=Zt hb9 gw
   try simp only [go_sem,seval,RO,cG,m1,m2,ga,gw,hwl,QS]
   refine ((iha (lv+1) σ (by omega) (by omega) ga gw).sub (.cons _ _)).mono ?_
   rintro r _ ⟨rfl,rfl⟩
   try simp only [go_sem,seval,RO]
   have hw64:IntKind.i64.wrap ((i:Int)+1)=((i+1:Nat):Int):=Zp (by omega) (by omega)
   rw [hw64]
   have hsn:VD (cY (l.take (i+1))) (lv+1) lv=max (VD (cY (l.take i)) (lv+1) lv) (VV (Ty.mk sb lb).shape (lv+1)):=by
    rw [List.take_add_one,ha]
    simp only [Option.toList_some,dp,List.map_append,List.map_cons,List.map_nil]
    rw [QR]
   refine .mk (i+1) (by omega) (by omega) ⟨.refl _,?_,trivial⟩ ?_ (.refl _)
   ·rw [hsn];exact .refl _
   ·repeat refine Zf.put rfl ?_
    exact ig
  ·have hil:l.take i=l:=List.take_of_length_le (by omega)
   rw [hil]
   exact Zu
 ·have hsh:VV (Ty.mk s l).shape lv=lv:=by simp only [Ty.shape,VV,if_neg hlv]
  rw [hsh]
  exact Zu
theorem Nk (t:Ty):Pur Tryz.prog 267 [.agg t.emb,.val VZ] (vi (VV t.shape 1)):=by
 intro σ
 obtain ⟨s,l⟩:=t
 simp only [cG]
 refine Zc [2,3] [] Tryz.func267 rfl (by kernel_rfl) ?_;rw [Tryz.ntmps267,Tryz.results267]
 try simp only [go_sem,seval,Gc]
 rintro b hb b1 ⟨m1,hb1⟩ b2 ⟨m2,m3,hb2⟩
 try simp only [go_sem,seval,Gc,m1,m2,m3,Ne.symm m1,Ne.symm m2,Ne.symm m3]
 refine (Kv b1 b2 (.mk s l) 1 _ (by omega) (by omega) (by simp only [Store.get,if_neg (Ne.symm m2),if_true]) (by simp only [Store.get,if_true,QS])).mono ?_
 rintro r _ ⟨rfl,rfl⟩
 try simp only [go_sem,seval,Gc]
 exact ZE (.refl _) (((Sub.refl σ).skip _).skip _ |>.skip _)
theorem Pm (t:Ty):Pur Tryz.prog 251 [.agg t.emb,.val VZ] (.tup [vi (Qg t.shape).1,vi (Qg t.shape).2]):=by
 intro σ
 obtain ⟨s,l⟩:=t
 simp only [cG]
 refine Zc [2,3] [(3,2,1)] Tryz.func251 rfl (by kernel_rfl) ?_;rw [Tryz.ntmps251,Tryz.results251]
 try simp only [go_sem,seval,Je]
 rintro b2 hb2 b3 ⟨m23,hb3⟩ b4 ⟨m34,m24,hb4⟩ b5 ⟨m45,m35,m25,hb5⟩
 refine UQ _ _ _ (fun b ⟨q5,q4,q3,q2,hb⟩=>?_)
 rw [Y5]
 have h1:b4≠b5:=m45
 refine (Lu b4 b5 b3 b2 m45 (.mk s l) _ ?_ ?_ ?_ ?_).mono ?_
 ·simp [Store.get,Ne.symm q4,m45,Ne.symm m45]
 ·simp [Store.get,Ne.symm q5]
 ·simp [Store.get,Ne.symm q3,Ne.symm m35,Ne.symm m34]
 ·simp [Store.get,cG,Ne.symm q2,Ne.symm m25,Ne.symm m24,Ne.symm m23]
 rintro r _ ⟨rfl,rfl⟩
 have hst:∀ st:Int×Int,S2 ((b,AObj.cells [vi 0])::(b5,.cells [vi 0])::(b4,.cells [vi 0])::(b3,.cells [.val VZ])::(b2,.cells (Ty.mk s l).emb)::σ) b4 b5 st=(b,.cells [vi 0])::(b5,.cells [vi st.2])::(b4,.cells [vi st.1])::(b3,.cells [.val VZ])::(b2,.cells (Ty.mk s l).emb)::σ:=by
  intro st
  simp [S2,Store.set,Ne.symm q4,Ne.symm q5,Ne.symm m45]
 refine ⟨_,hst _,?_⟩
 have hm:Qg (Ty.mk s l).shape=if (wlk (Ty.mk s l).shape 1 (0,0)).1 then (wlk (Ty.mk s l).shape 1 (0,0)).2 else ((wlk (Ty.mk s l).shape 1 (0,0)).2.1,VV (Ty.mk s l).shape 1):=rfl
 rw [hm]
 generalize wlk (Ty.mk s l).shape 1 (0,0)=p
 obtain ⟨ok,c,d⟩:=p
 have e45:=Ne.symm m45
 have e34:=Ne.symm m34
 have e35:=Ne.symm m35
 have e24:=Ne.symm m24
 have e25:=Ne.symm m25
 have e23:=Ne.symm m23
 cases ok with
 | true =>
   try simp only [go_sem,seval,Je,m23,m34,m24,m45,m35,m25,e23,e34,e24,e45,e35,e25]
   refine .mk (.refl _) ?_ ⟨rfl,rfl⟩
   repeat first | exact .refl _ | refine .skip _ ?_
 | false =>
   refine ⟨2,rfl,?_⟩
   try simp only [go_sem,seval,Je,m23,m34,m24,m45,m35,m25,e23,e34,e24,e45,e35,e25,cG]
   refine (Nk (.mk s l)).use ?_
   try simp only [go_sem,seval,Je,m23,m34,m24,m45,m35,m25,e23,e34,e24,e45,e35,e25,cG]
   refine .mk (.refl _) ?_ ⟨rfl,rfl⟩
   repeat first | exact .refl _ | refine .skip _ ?_
theorem LG (t:Ty):Pur Tryz.prog 208 [.agg t.emb,.val VZ] (vi (XZ t.shape)):=by
 intro σ
 have hm:=Pm t
 obtain ⟨s,l⟩:=t
 simp only [cG] at hm ⊢
 refine Zc [] [] Tryz.func208 rfl (by kernel_rfl) ?_;rw [Tryz.ntmps208,Tryz.results208]
 try simp only [go_sem,seval,Br]
 refine hm.use ?_
 unfold XZ
 generalize Qg (Ty.mk s l).shape=p
 try simp only [go_sem,seval,Br]
 refine ⟨fun h=>?_,fun h=>⟨fun h2=>?_,fun h2=>?_⟩⟩
 ·rw [if_pos h];exact Zu
 ·rw [if_neg h,if_pos h2];exact Zu
 ·rw [if_neg h,if_neg h2];exact Zu
end Go.Vx
