/- Part Q20 of the proof of treeMoreProved: the walk of the program on abstract values, and the plain law. -/
import Derived.Test.YtmedmnondjmleaaGreatQ14
set_option linter.unusedVariables false
set_option linter.unusedSimpArgs false
set_option maxRecDepth 100000
namespace Go.Vx
open Go.Proofs
mutual
def wlk:Ro→Int→Int×Int→Bool×(Int×Int)
 | .mk l,lv,(c,d)=>if c+1≤4000 then (if lv≤100 then Xv l (lv+1) (c+1,max d lv) else (true,(c+1,max d lv))) else (false,(c+1,d))
def Xv:List Ro→Int→Int×Int→Bool×(Int×Int)
 | [],_,st=>(true,st)
 | t::r,lv,st=>match wlk t lv st with
   | (true,st')=>Xv r lv st'
   | (false,st')=>(false,st')
end
def S2 (σ:Store)(a b:Nat)(st:Int×Int):Store:=(σ.set a (.cells [vi st.1])).set b (.cells [vi st.2])
theorem GB {σ:Store}{a b:Nat}{x y:AObj}(h:a≠b):(σ.set a x).set b y=(σ.set b y).set a x:=by
 induction σ with
 | nil=>rfl
 | cons p r ih =>
   obtain ⟨c,z⟩:=p
   simp only [Store.set]
   by_cases e1:c=a
   ·have e2:¬ c=b:=fun e=>h (e1 ▸ e)
    simp [e1,e2,Store.set,h]
   ·by_cases e2:c=b
    ·simp [e1,e2,Store.set,Ne.symm h]
    ·simp [e1,e2,Store.set,ih]
section
variable {σ:Store} {a b:Nat} {c d c' d':Int}
theorem ST (hb:σ.get b=some (.cells [vi d]))(h:a≠b):σ.set a (.cells [vi c])=S2 σ a b (c,d):=by
 unfold S2;exact (YE (by rw [Zc (Ne.symm h)];exact hb)).symm
theorem C5:(S2 σ a b (c,d)).set b (.cells [vi d'])=S2 σ a b (c,d'):=by
 unfold S2;rw [Zu]
theorem BC (h:a≠b){st st':Int×Int}:S2 (S2 σ a b st) a b st'=S2 σ a b st':=by
 unfold S2;rw [GB (Ne.symm h),Zu,Zu]
theorem Rr {x:AObj}(ha:σ.get a=some x)(h:a≠b)(st:Int×Int):(S2 σ a b st).get a=some (.cells [vi st.1]):=by
 unfold S2;rw [Zc h,Zd ha]
theorem Rq {x:AObj}(hb:σ.get b=some x)(h:a≠b)(st:Int×Int):(S2 σ a b st).get b=some (.cells [vi st.2]):=by
 unfold S2;exact Zd (x:=x) (by rw [Zc (Ne.symm h)];exact hb)
theorem Si {k:Nat}(h1:k≠a)(h2:k≠b)(st:Int×Int):(S2 σ a b st).get k=σ.get k:=by
 unfold S2;rw [Zc h2,Zc h1]
end
mutual
theorem BE:∀ (t:Ro) (lv:Int) (st:Int×Int),0≤st.1→st.1≤4000→0≤st.2→st.2≤101→lv≤101→(wlk t lv st).1=true→0≤(wlk t lv st).2.1∧(wlk t lv st).2.1≤4000∧0≤(wlk t lv st).2.2∧(wlk t lv st).2.2≤101
 | .mk l,lv,(c,d),h1,h2,h3,h4,h5,hk=>by
   simp only [wlk] at hk ⊢
   simp only at h1 h2 h3 h4
   by_cases e:c+1≤4000
   ·rw [if_pos e] at hk ⊢
    by_cases e2:lv≤100
    ·rw [if_pos e2] at hk ⊢
     exact RF l (lv+1) (c+1,max d lv) (by simp only;omega) e (by simp only;omega) (by simp only;omega) (by omega) hk
    ·rw [if_neg e2]
     simp only
     omega
   ·rw [if_neg e] at hk;cases hk
theorem RF:∀ (l:List Ro) (lv:Int) (st:Int×Int),0≤st.1→st.1≤4000→0≤st.2→st.2≤101→lv≤101→(Xv l lv st).1=true→0≤(Xv l lv st).2.1∧(Xv l lv st).2.1≤4000∧0≤(Xv l lv st).2.2∧(Xv l lv st).2.2≤101
 | [],lv,st,h1,h2,h3,h4,h5,hk=>by simp only [Xv];exact ⟨h1,h2,h3,h4⟩
 | t::r,lv,st,h1,h2,h3,h4,h5,hk=>by
   simp only [Xv] at hk ⊢
   have ht:=BE t lv st h1 h2 h3 h4 h5
   generalize wlk t lv st=p at hk ht ⊢
   obtain ⟨b,q⟩:=p
   cases b with
   | true=>exact RF r lv q (ht rfl).1 (ht rfl).2.1 (ht rfl).2.2.1 (ht rfl).2.2.2 h5 hk
   | false=>cases hk
end
theorem PO (l:List Ro)(t:Ro)(lv:Int):∀ st st',Xv l lv st=(true,st')→Xv (l++[t]) lv st=wlk t lv st':=by
 induction l with
 | nil=>intro st st' h;simp only [Xv,Prod.mk.injEq,true_and] at h;subst h;simp only [List.nil_append,Xv];generalize wlk t lv st=p;obtain ⟨b,q⟩:=p;cases b<;>rfl
 | cons x r ih =>
   intro st st' h
   simp only [Xv,List.cons_append] at h ⊢
   generalize wlk x lv st=p at h ⊢
   obtain ⟨b,q⟩:=p
   cases b with
   | true=>exact ih q st' h
   | false=>simp at h
theorem PN (l:List Ro)(t:Ro)(r:List Ro)(lv:Int):∀ st st' st'',Xv l lv st=(true,st')→wlk t lv st'=(false,st'')→Xv (l++t::r) lv st=(false,st''):=by
 induction l with
 | nil=>intro st st' st'' h k;simp only [Xv,Prod.mk.injEq,true_and] at h;subst h;simp only [List.nil_append,Xv,k]
 | cons x r ih =>
   intro st st' st'' h k
   simp only [Xv,List.cons_append] at h ⊢
   generalize wlk x lv st=p at h ⊢
   obtain ⟨b,q⟩:=p
   cases b with
   | true=>exact ih q st' st'' h k
   | false=>simp at h
theorem JY {σ:Store}{a b k:Nat}{x:AObj}{st:Int×Int}(h1:k≠a)(h2:k≠b):S2 ((k,x)::σ) a b st=(k,x)::S2 σ a b st:=by
 unfold S2;simp only [Store.set];rw [if_neg h1];simp only [Store.set];rw [if_neg h2]
mutual
def V8:Ro→Int→Int
 | .mk l,lv=>if lv≤100 then VM l (lv+1) lv else lv
def VM:List Ro→Int→Int→Int
 | [],_,o=>o
 | t::r,lv,o=>VM r lv (max o (V8 t lv))
end
theorem QX (l:List Ro)(t:Ro)(lv:Int):∀ o,VM (l++[t]) lv o=max (VM l lv o) (V8 t lv):=by
 induction l with
 | nil=>intro o;rfl
 | cons x r ih=>intro o;simp only [List.cons_append,VM];exact ih _
def Qn (t:Ro):Int×Int:=if (wlk t 1 (0,0)).1 then (wlk t 1 (0,0)).2 else ((wlk t 1 (0,0)).2.1,V8 t 1)
def X6 (t:Ro):Int:=if 4000<(Qn t).1 then 2 else if 100<(Qn t).2 then 5 else 0
theorem TC:(Zh Tryz.prog 3=some 1)∧(Ze Tryz.prog 3=some false)∧(Zh Tryz.prog 163=some 1)∧(Ze Tryz.prog 163=some false)∧(Zh Tryz.prog 52=some 4)∧(Ze Tryz.prog 52=some true)∧(ZB Tryz.prog 33=some 52)∧(Zl Tryz.prog 52=some (.agg #[(.int .i64 0),(.int .i64 0),(.string ⟨#[]⟩),(.slice none 0 0)]))∧(Zh Tryz.prog 247=some 1)∧(Ze Tryz.prog 247=some false)∧(Tryz.prog.underlying 33=some (.slice 52)):=by
 refine ⟨?_,?_,?_,?_,?_,?_,?_,?_,?_,?_,?_⟩<;>first | trivial | kernel_rfl
theorem aL:(ZE Tryz.prog 52 3=some 3)∧(Zh Tryz.prog 33=some 1)∧(Ze Tryz.prog 33=some false):=by
 refine ⟨?_,?_,?_⟩<;>first | trivial | kernel_rfl
theorem Jm:(Zl Tryz.prog 247=some .nilFunc)∧(Zh Tryz.prog 247=some 1)∧(Ze Tryz.prog 247=some false)∧(Zh Tryz.prog 52=some 4)∧(Ze Tryz.prog 52=some true):=by
 refine ⟨?_,?_,?_,?_,?_⟩<;>first | trivial | kernel_rfl
theorem Jo:(Zl Tryz.prog 3=some (.int .i64 0))∧(Zh Tryz.prog 52=some 4)∧(Ze Tryz.prog 52=some true)∧(Zh Tryz.prog 163=some 1)∧(Ze Tryz.prog 163=some false)∧(Zh Tryz.prog 3=some 1)∧(Ze Tryz.prog 3=some false):=by
 refine ⟨?_,?_,?_,?_,?_,?_,?_⟩<;>first | trivial | kernel_rfl
theorem RV:(Zh Tryz.prog 163=some 1)∧(Ze Tryz.prog 163=some false)∧(Zh Tryz.prog 52=some 4)∧(Ze Tryz.prog 52=some true)∧(ZB Tryz.prog 33=some 52)∧(Zl Tryz.prog 52=some (.agg #[(.int .i64 0),(.int .i64 0),(.string ⟨#[]⟩),(.slice none 0 0)]))∧(Zh Tryz.prog 174=some 1)∧(Ze Tryz.prog 174=some false)∧(Tryz.prog.underlying 33=some (.slice 52)):=by
 refine ⟨?_,?_,?_,?_,?_,?_,?_,?_,?_⟩<;>first | trivial | kernel_rfl
theorem Ge:(Zl Tryz.prog 174=some .nilFunc)∧(Zh Tryz.prog 174=some 1)∧(Ze Tryz.prog 174=some false)∧(Zh Tryz.prog 52=some 4)∧(Ze Tryz.prog 52=some true):=by
 refine ⟨?_,?_,?_,?_,?_⟩<;>first | trivial | kernel_rfl
theorem ao:(Zh Tryz.prog 52=some 4)∧(Ze Tryz.prog 52=some true):=by
 refine ⟨?_,?_⟩<;>first | trivial | kernel_rfl
theorem M6 (t:Tm):Pur Tryz.prog 100 [.agg t.emb] (.list .none 4 (cw t.kids)):=by
 intro σ
 obtain ⟨k,n,s,l⟩:=t
 simp only [cg,Tm.kids]
 refine Zb [] [] Tryz.func100 rfl (by kernel_rfl) ?_;rw [Tryz.ntmps100,Tryz.results100]
 try simp only [go_sem,seval,aL]
 exact Zv
def Ut (bn bd ba bw:Nat):Value:=.func (.func 184) #[] #[.pointer (some ⟨bn,0,none⟩),.pointer (some ⟨bd,0,none⟩),.pointer (some ⟨ba,0,none⟩),.pointer (some ⟨bw,0,none⟩)]
theorem J3 (bn bd ba bw:Nat)(h1:bn≠bd):∀ (t:Tm) (lv c d:Int) (σ:Store),1≤lv→lv≤101→0≤c→c≤4000→0≤d→d≤101 →
 σ.get bn=some (.cells [vi c])→σ.get bd=some (.cells [vi d])→σ.get ba=some (.cells [.val (.func (.func 100) #[] #[])])→σ.get bw=some (.cells [.val (Ut bn bd ba bw)]) →
 Zi Tryz.prog 184 [.agg t.emb,vi lv,.val (.pointer (some ⟨bn,0,none⟩)),.val (.pointer (some ⟨bd,0,none⟩)),.val (.pointer (some ⟨ba,0,none⟩)),.val (.pointer (some ⟨bw,0,none⟩))] σ
  (fun r σ'=>σ'=S2 σ bn bd (wlk t.shape lv (c,d)).2∧r=if (wlk t.shape lv (c,d)).1 then .ret (.tup []) else .pan (YI 2)):=by
 intro t
 induction t using dz with | h k n s l ih=>?_
 intro lv c d σ hl1 hl2 hc0 hc1 hd0 hd1 gn gd ga gw
 refine Zi.ok (by kernel_rfl) (fun hok=>?_)
 have hlen:=(((hok _ List.mem_cons_self).agg (c:=.list .none 4 (cw l)) (by simp [cg])).len)
 rw [bX] at hlen
 clear hok
 simp only [cg]
 have n1:ba≠bn:=by intro e;rw [e,gn] at ga;simp at ga
 have n2:ba≠bd:=by intro e;rw [e,gd] at ga;simp at ga
 have n3:bw≠bn:=by intro e;rw [e,gn] at gw;simp [Ut] at gw
 have n4:bw≠bd:=by intro e;rw [e,gd] at gw;simp [Ut] at gw
 have hwc:IntKind.i64.wrap (c+1)=c+1:=Zp (by omega) (by omega)
 have hwl:IntKind.i64.wrap (lv+1)=lv+1:=Zp (by omega) (by omega)
 refine Zb [] [] Tryz.func184 rfl (by kernel_rfl) ?_;rw [Tryz.ntmps184,Tryz.results184]
 refine iu ?_
 refine VH (fun hm=>?_) (fun hm=>?_)
 ·have hm:c+1≤4000:=by simpa (disch:=omega) only [Zp,decide_eq_true_eq] using hm
  refine iu ?_
  refine ⟨fun hlv=>?_,fun hlv=>?_⟩
  ·refine (M6 (.mk k n s l)).use ?_
   try simp only [go_sem,seval,TC,gn,gd,ga,gw,h1,Ne.symm h1,n1,n2,n3,n4,hwc,hwl,Tm.kids]
   rw [ST (d:=d) gd h1,C5]
   have hsh:(wlk (Tm.mk k n s l).shape lv (c,d))=Xv (cQ l) (lv+1) (c+1,max d lv):=by
    simp only [Tm.shape,wlk,if_pos hm,if_pos hlv]
   rw [hsh]
   refine Zw (mu:=[6]) (dr:=[]) [9,24,25,26,27,28,29,30,31,32,33] (fun x:Nat×(Int×Int)=>[(24,vi x.1)]) (fun x=>S2 σ bn bd x.2)
    (fun x=>x.1≤l.length∧Xv (cQ (l.take x.1)) (lv+1) (c+1,max d lv)=(true,x.2)) (fun x=>l.length-x.1) (0,(c+1,max d lv)) (by kernel_rfl) ⟨by simp,by simp [cQ,Xv]⟩ ?_ (.refl _) ?_
   ·exact ⟨.refl _,trivial⟩
   ·rintro ⟨i,st⟩ ⟨hi,hst⟩
    dsimp only at hi hst
    have hb:=RF (cQ (l.take i)) (lv+1) (c+1,max d lv) (by dsimp only;omega) (by dsimp only;omega) (by dsimp only;omega) (by dsimp only;omega) (by omega) (by rw [hst])
    rw [hst] at hb
    dsimp only at hb
    obtain ⟨c1,d1⟩:=st
    dsimp only at hb
    try simp only [go_sem,seval,TC,bX,Rr gn h1,Rq gd h1,Si n1 n2,Si n3 n4,ga,gw,hwl]
    refine ⟨fun hi2=>⟨by omega,hi2,fun e he=>?_⟩,fun hi2=>?_⟩
    ·rw [Int.toNat_natCast] at he
     obtain ⟨a,ha,rfl⟩:=cL he
     have iha:=ih a (List.mem_of_getElem? ha)
     obtain ⟨ka,na,sa,la⟩:=a
     try simp only [go_sem,seval,TC,cg]
     intro b9 hb9
     have m1:=Zt hb9 (Rr gn h1 (c1,d1))
     have m2:=Zt hb9 (Rq gd h1 (c1,d1))
     have m4:=Zt hb9 ((Si n3 n4 (c1,d1)).trans gw)
     try simp only [go_sem,seval,TC,cg,m1,m2,m4,Rr gn h1,Rq gd h1,Si n1 n2,Si n3 n4,ga,gw,hwl,Ut]
     have hsplit:=Yz ha
     refine ((iha (lv+1) c1 d1 (S2 σ bn bd (c1,d1)) (by omega) (by omega) hb.1 hb.2.1 hb.2.2.1 hb.2.2.2 (Rr gn h1 _) (Rq gd h1 _) ((Si n1 n2 _).trans ga) ((Si n3 n4 _).trans gw)).sub (.cons _ _)).mono ?_
     rintro r _ ⟨rfl,rfl⟩
     rw [BC h1]
     have hsn:∀ x:Tm,cQ (l.take i++[x])=cQ (l.take i)++[x.shape]:=fun x=>by simp [dh]
     generalize hw:wlk (Tm.mk ka na sa la).shape (lv+1) (c1,d1)=p
     obtain ⟨b,q⟩:=p
     cases b with
     | true =>
       try simp only [go_sem,seval,TC]
       have hw64:IntKind.i64.wrap ((i:Int)+1)=((i+1:Nat):Int):=Zp (by omega) (by omega)
       rw [hw64]
       refine .mk (i+1,q) ⟨by omega,?_⟩ (by dsimp only;omega) ⟨.refl _,trivial⟩ ?_ (.refl _)
       ·rw [List.take_add_one,ha]
        simp only [Option.toList_some]
        rw [hsn,PO _ _ _ _ _ hst,hw]
       ·repeat refine Zg.put rfl ?_
        exact hJ
     | false =>
       try simp only [go_sem,seval,TC]
       have he:Xv (cQ l) (lv+1) (c+1,max d lv)=(false,q):=by
        rw [hsplit,dh,List.map_append,List.map_cons,← dh]
        exact PN _ _ _ _ _ _ _ hst hw
       rw [he]
       exact iK
    ·have hil:l.take i=l:=List.take_of_length_le (by omega)
     rw [hil] at hst
     rw [hst]
     exact iN
  ·rw [ST (d:=d) gd h1,C5]
   refine .mk (.refl _) (.refl _) ?_
   simp only [Tm.shape,wlk,if_pos hm,if_neg hlv,if_true,and_self]
 ·have hm:¬ c+1≤4000:=by simpa (disch:=omega) only [Zp,decide_eq_false_iff_not] using hm
  refine iu ?_
  rw [ST (d:=d) gd h1]
  refine .mk (.refl _) ?_
  simp only [Tm.shape,wlk,if_neg hm,Bool.false_eq_true,if_false,and_self]
abbrev Ud:Value:=.func (.func 100) #[] #[]
theorem Lz (bn bd ba bt:Nat)(h1:bn≠bd)(t:Tm)(σ:Store)(gn:σ.get bn=some (.cells [vi 0]))(gd:σ.get bd=some (.cells [vi 0]))(ga:σ.get ba=some (.cells [.val Ud]))(gt:σ.get bt=some (.cells t.emb)) :
 Zi Tryz.prog 183 [.val (.pointer (some ⟨bn,0,none⟩)),.val (.pointer (some ⟨bd,0,none⟩)),.val (.pointer (some ⟨ba,0,none⟩)),.val (.pointer (some ⟨bt,0,none⟩))] σ
  (fun r σ'=>σ'=S2 σ bn bd (wlk t.shape 1 (0,0)).2∧r=if (wlk t.shape 1 (0,0)).1 then .ret (.tup []) else .pan (YI 2)):=by
 obtain ⟨k,n,s,l⟩:=t
 simp only [cg] at gt
 refine Zb [] [] Tryz.func183 rfl (by kernel_rfl) ?_;rw [Tryz.ntmps183,Tryz.results183]
 try simp only [go_sem,seval,Jm]
 intro bw hbw
 have m1:=Zt hbw gn
 have m2:=Zt hbw gd
 have m3:=Zt hbw ga
 have m4:=Zt hbw gt
 try simp only [go_sem,seval,Jm,m1,m2,m3,m4,gt]
 refine (J3 bn bd ba bw h1 (.mk k n s l) 1 0 0 _ (by omega) (by omega) (by omega) (by omega) (by omega) (by omega) (by simp only [Store.get,if_neg m1];exact gn) (by simp only [Store.get,if_neg m2];exact gd) (by simp only [Store.get,if_neg m3];exact ga) (by simp only [Store.get,if_true,Ut])).mono ?_
 rintro r _ ⟨rfl,rfl⟩
 rw [JY m1 m2]
 cases (wlk (Tm.mk k n s l).shape 1 (0,0)).1 with
 | true =>
   try simp only [go_sem,seval,Jm]
   exact ib
 | false =>
   try simp only [go_sem,seval,Jm]
   exact .mk (.cons _ _) ⟨rfl,rfl⟩
def QZ (ba bw:Nat):Value:=.func (.func 237) #[] #[.pointer (some ⟨ba,0,none⟩),.pointer (some ⟨bw,0,none⟩)]
theorem KA (ba bw:Nat):∀ (t:Tm) (lv:Int) (σ:Store),1≤lv→lv≤101→σ.get ba=some (.cells [.val Ud])→σ.get bw=some (.cells [.val (QZ ba bw)]) →
 Zi Tryz.prog 237 [.agg t.emb,vi lv,.val (.pointer (some ⟨ba,0,none⟩)),.val (.pointer (some ⟨bw,0,none⟩))] σ (Yn (vi (V8 t.shape lv)) σ):=by
 intro t
 induction t using dz with | h k n s l ih=>?_
 intro lv σ hl1 hl2 ga gw
 refine Zi.ok (by kernel_rfl) (fun hok=>?_)
 have hlen:=(((hok _ List.mem_cons_self).agg (c:=.list .none 4 (cw l)) (by simp [cg])).len)
 rw [bX] at hlen
 clear hok
 simp only [cg]
 have hwl:IntKind.i64.wrap (lv+1)=lv+1:=Zp (by omega) (by omega)
 refine Zb [] [] Tryz.func237 rfl (by kernel_rfl) ?_;rw [Tryz.ntmps237,Tryz.results237]
 try simp only [go_sem,seval,RV]
 refine ⟨fun hlv=>?_,fun hlv=>?_⟩
 ·try simp only [go_sem,seval,RV,ga,gw]
  refine (M6 (.mk k n s l)).use ?_
  try simp only [go_sem,seval,RV,Tm.kids]
  have hsh:V8 (Tm.mk k n s l).shape lv=VM (cQ l) (lv+1) lv:=by simp only [Tm.shape,V8,if_pos hlv]
  rw [hsh]
  refine Zw (mu:=[]) (dr:=[]) [7,9,17,18,19,20,21,22,23,24,25,26,27,28] (fun i:Nat=>[(17,vi i),(7,vi (VM (cQ (l.take i)) (lv+1) lv))]) (fun _=>σ)
   (fun i=>i≤l.length) (fun i=>l.length-i) 0 (by kernel_rfl) (by omega) ⟨.refl _,.refl _,trivial⟩ (.refl _) ?_
  intro i hi
  try simp only [go_sem,seval,RV,bX,ga,gw,hwl]
  refine ⟨fun hi2=>⟨by omega,hi2,fun e he=>?_⟩,fun hi2=>?_⟩
  ·rw [Int.toNat_natCast] at he
   obtain ⟨a,ha,rfl⟩:=cL he
   have iha:=ih a (List.mem_of_getElem? ha)
   obtain ⟨kb,nb,sb,lb⟩:=a
   try simp only [go_sem,seval,RV,cg]
   intro b9 hb9
   have m1:=Zt hb9 ga
   have m2:=Zt hb9 gw
   try simp only [go_sem,seval,RV,cg,m1,m2,ga,gw,hwl,QZ]
   refine ((iha (lv+1) σ (by omega) (by omega) ga gw).sub (.cons _ _)).mono ?_
   rintro r _ ⟨rfl,rfl⟩
   try simp only [go_sem,seval,RV]
   have hw64:IntKind.i64.wrap ((i:Int)+1)=((i+1:Nat):Int):=Zp (by omega) (by omega)
   rw [hw64]
   have hsn:VM (cQ (l.take (i+1))) (lv+1) lv=max (VM (cQ (l.take i)) (lv+1) lv) (V8 (Tm.mk kb nb sb lb).shape (lv+1)):=by
    rw [List.take_add_one,ha]
    simp only [Option.toList_some,dh,List.map_append,List.map_cons,List.map_nil]
    rw [QX]
   refine .mk (i+1) (by omega) (by omega) ⟨.refl _,?_,trivial⟩ ?_ (.refl _)
   ·rw [hsn];exact .refl _
   ·repeat refine Zg.put rfl ?_
    exact hJ
  ·have hil:l.take i=l:=List.take_of_length_le (by omega)
   rw [hil]
   exact Zv
 ·have hsh:V8 (Tm.mk k n s l).shape lv=lv:=by simp only [Tm.shape,V8,if_neg hlv]
  rw [hsh]
  exact Zv
theorem Nn (t:Tm):Pur Tryz.prog 185 [.agg t.emb,.val Ud] (vi (V8 t.shape 1)):=by
 intro σ
 obtain ⟨k,n,s,l⟩:=t
 simp only [cg]
 refine Zb [2,3] [] Tryz.func185 rfl (by kernel_rfl) ?_;rw [Tryz.ntmps185,Tryz.results185]
 try simp only [go_sem,seval,Ge]
 rintro b hb b1 ⟨m1,hb1⟩ b2 ⟨m2,m3,hb2⟩
 try simp only [go_sem,seval,Ge,m1,m2,m3,Ne.symm m1,Ne.symm m2,Ne.symm m3]
 refine (KA b1 b2 (.mk k n s l) 1 _ (by omega) (by omega) (by simp only [Store.get,if_neg (Ne.symm m2),if_true]) (by simp only [Store.get,if_true,QZ])).mono ?_
 rintro r _ ⟨rfl,rfl⟩
 try simp only [go_sem,seval,Ge]
 exact ZF (.refl _) (((Sub.refl σ).skip _).skip _ |>.skip _)
theorem Pr (t:Tm):Pur Tryz.prog 138 [.agg t.emb,.val Ud] (.tup [vi (Qn t.shape).1,vi (Qn t.shape).2]):=by
 intro σ
 obtain ⟨k,n,s,l⟩:=t
 simp only [cg]
 refine Zb [2,3] [(3,2,1)] Tryz.func138 rfl (by kernel_rfl) ?_;rw [Tryz.ntmps138,Tryz.results138]
 try simp only [go_sem,seval,Jo]
 rintro b2 hb2 b3 ⟨m23,hb3⟩ b4 ⟨m34,m24,hb4⟩ b5 ⟨m45,m35,m25,hb5⟩
 refine UY _ _ _ (fun b ⟨q5,q4,q3,q2,hb⟩=>?_)
 rw [Y8]
 have h1:b4≠b5:=m45
 refine (Lz b4 b5 b3 b2 m45 (.mk k n s l) _ ?_ ?_ ?_ ?_).mono ?_
 ·simp [Store.get,Ne.symm q4,m45,Ne.symm m45]
 ·simp [Store.get,Ne.symm q5]
 ·simp [Store.get,Ne.symm q3,Ne.symm m35,Ne.symm m34]
 ·simp [Store.get,cg,Ne.symm q2,Ne.symm m25,Ne.symm m24,Ne.symm m23]
 rintro r _ ⟨rfl,rfl⟩
 have hst:∀ st:Int×Int,S2 ((b,AObj.cells [vi 0])::(b5,.cells [vi 0])::(b4,.cells [vi 0])::(b3,.cells [.val Ud])::(b2,.cells (Tm.mk k n s l).emb)::σ) b4 b5 st=(b,.cells [vi 0])::(b5,.cells [vi st.2])::(b4,.cells [vi st.1])::(b3,.cells [.val Ud])::(b2,.cells (Tm.mk k n s l).emb)::σ:=by
  intro st
  simp [S2,Store.set,Ne.symm q4,Ne.symm q5,Ne.symm m45]
 refine ⟨_,hst _,?_⟩
 have hm:Qn (Tm.mk k n s l).shape=if (wlk (Tm.mk k n s l).shape 1 (0,0)).1 then (wlk (Tm.mk k n s l).shape 1 (0,0)).2 else ((wlk (Tm.mk k n s l).shape 1 (0,0)).2.1,V8 (Tm.mk k n s l).shape 1):=rfl
 rw [hm]
 generalize wlk (Tm.mk k n s l).shape 1 (0,0)=p
 obtain ⟨ok,c,d⟩:=p
 have e45:=Ne.symm m45
 have e34:=Ne.symm m34
 have e35:=Ne.symm m35
 have e24:=Ne.symm m24
 have e25:=Ne.symm m25
 have e23:=Ne.symm m23
 cases ok with
 | true =>
   try simp only [go_sem,seval,Jo,m23,m34,m24,m45,m35,m25,e23,e34,e24,e45,e35,e25]
   refine .mk (.refl _) ?_ ⟨rfl,rfl⟩
   repeat first | exact .refl _ | refine .skip _ ?_
 | false =>
   refine ⟨2,rfl,?_⟩
   try simp only [go_sem,seval,Jo,m23,m34,m24,m45,m35,m25,e23,e34,e24,e45,e35,e25,cg]
   refine (Nn (.mk k n s l)).use ?_
   try simp only [go_sem,seval,Jo,m23,m34,m24,m45,m35,m25,e23,e34,e24,e45,e35,e25,cg]
   refine .mk (.refl _) ?_ ⟨rfl,rfl⟩
   repeat first | exact .refl _ | refine .skip _ ?_
theorem LL (t:Tm):Pur Tryz.prog 99 [.agg t.emb,.val Ud] (vi (X6 t.shape)):=by
 intro σ
 have hm:=Pr t
 obtain ⟨k,n,s,l⟩:=t
 simp only [cg] at hm ⊢
 refine Zb [] [] Tryz.func99 rfl (by kernel_rfl) ?_;rw [Tryz.ntmps99,Tryz.results99]
 try simp only [go_sem,seval,ao]
 refine hm.use ?_
 unfold X6
 generalize Qn (Tm.mk k n s l).shape=p
 try simp only [go_sem,seval,ao]
 refine ⟨fun h=>?_,fun h=>⟨fun h2=>?_,fun h2=>?_⟩⟩
 ·rw [if_pos h];exact Zv
 ·rw [if_neg h,if_pos h2];exact Zv
 ·rw [if_neg h,if_neg h2];exact Zv
theorem TB:(Zh Tryz.prog 3=some 1)∧(Ze Tryz.prog 3=some false)∧(Zh Tryz.prog 269=some 1)∧(Ze Tryz.prog 269=some false)∧(Zh Tryz.prog 150=some 2)∧(Ze Tryz.prog 150=some true)∧(ZB Tryz.prog 126=some 150)∧(Zl Tryz.prog 150=some (.agg #[(.string ⟨#[]⟩),(.slice none 0 0)]))∧(Zh Tryz.prog 305=some 1)∧(Ze Tryz.prog 305=some false)∧(Tryz.prog.underlying 126=some (.slice 150)):=by
 refine ⟨?_,?_,?_,?_,?_,?_,?_,?_,?_,?_,?_⟩<;>first | trivial | kernel_rfl
theorem aH:(ZE Tryz.prog 150 1=some 1)∧(Zh Tryz.prog 126=some 1)∧(Ze Tryz.prog 126=some false):=by
 refine ⟨?_,?_,?_⟩<;>first | trivial | kernel_rfl
theorem Jg:(Zl Tryz.prog 305=some .nilFunc)∧(Zh Tryz.prog 305=some 1)∧(Ze Tryz.prog 305=some false)∧(Zh Tryz.prog 150=some 2)∧(Ze Tryz.prog 150=some true):=by
 refine ⟨?_,?_,?_,?_,?_⟩<;>first | trivial | kernel_rfl
theorem Ji:(Zl Tryz.prog 3=some (.int .i64 0))∧(Zh Tryz.prog 150=some 2)∧(Ze Tryz.prog 150=some true)∧(Zh Tryz.prog 269=some 1)∧(Ze Tryz.prog 269=some false)∧(Zh Tryz.prog 3=some 1)∧(Ze Tryz.prog 3=some false):=by
 refine ⟨?_,?_,?_,?_,?_,?_,?_⟩<;>first | trivial | kernel_rfl
theorem RS:(Zh Tryz.prog 269=some 1)∧(Ze Tryz.prog 269=some false)∧(Zh Tryz.prog 150=some 2)∧(Ze Tryz.prog 150=some true)∧(ZB Tryz.prog 126=some 150)∧(Zl Tryz.prog 150=some (.agg #[(.string ⟨#[]⟩),(.slice none 0 0)]))∧(Zh Tryz.prog 253=some 1)∧(Ze Tryz.prog 253=some false)∧(Tryz.prog.underlying 126=some (.slice 150)):=by
 refine ⟨?_,?_,?_,?_,?_,?_,?_,?_,?_⟩<;>first | trivial | kernel_rfl
theorem Ga:(Zl Tryz.prog 253=some .nilFunc)∧(Zh Tryz.prog 253=some 1)∧(Ze Tryz.prog 253=some false)∧(Zh Tryz.prog 150=some 2)∧(Ze Tryz.prog 150=some true):=by
 refine ⟨?_,?_,?_,?_,?_⟩<;>first | trivial | kernel_rfl
theorem Bh:(Zh Tryz.prog 150=some 2)∧(Ze Tryz.prog 150=some true):=by
 refine ⟨?_,?_⟩<;>first | trivial | kernel_rfl
theorem M5 (t:Ty):Pur Tryz.prog 209 [.agg t.emb] (.list .none 2 (cC t.kids)):=by
 intro σ
 obtain ⟨s,l⟩:=t
 simp only [cB,Ty.kids]
 refine Zb [] [] Tryz.func209 rfl (by kernel_rfl) ?_;rw [Tryz.ntmps209,Tryz.results209]
 try simp only [go_sem,seval,aH]
 exact Zv
def Us (bn bd ba bw:Nat):Value:=.func (.func 266) #[] #[.pointer (some ⟨bn,0,none⟩),.pointer (some ⟨bd,0,none⟩),.pointer (some ⟨ba,0,none⟩),.pointer (some ⟨bw,0,none⟩)]
theorem J2 (bn bd ba bw:Nat)(h1:bn≠bd):∀ (t:Ty) (lv c d:Int) (σ:Store),1≤lv→lv≤101→0≤c→c≤4000→0≤d→d≤101 →
 σ.get bn=some (.cells [vi c])→σ.get bd=some (.cells [vi d])→σ.get ba=some (.cells [.val (.func (.func 209) #[] #[])])→σ.get bw=some (.cells [.val (Us bn bd ba bw)]) →
 Zi Tryz.prog 266 [.agg t.emb,vi lv,.val (.pointer (some ⟨bn,0,none⟩)),.val (.pointer (some ⟨bd,0,none⟩)),.val (.pointer (some ⟨ba,0,none⟩)),.val (.pointer (some ⟨bw,0,none⟩))] σ
  (fun r σ'=>σ'=S2 σ bn bd (wlk t.shape lv (c,d)).2∧r=if (wlk t.shape lv (c,d)).1 then .ret (.tup []) else .pan (YI 2)):=by
 intro t
 induction t using dF with | h s l ih=>?_
 intro lv c d σ hl1 hl2 hc0 hc1 hd0 hd1 gn gd ga gw
 refine Zi.ok (by kernel_rfl) (fun hok=>?_)
 have hlen:=(((hok _ List.mem_cons_self).agg (c:=.list .none 2 (cC l)) (by simp [cB])).len)
 rw [bY] at hlen
 clear hok
 simp only [cB]
 have n1:ba≠bn:=by intro e;rw [e,gn] at ga;simp at ga
 have n2:ba≠bd:=by intro e;rw [e,gd] at ga;simp at ga
 have n3:bw≠bn:=by intro e;rw [e,gn] at gw;simp [Us] at gw
 have n4:bw≠bd:=by intro e;rw [e,gd] at gw;simp [Us] at gw
 have hwc:IntKind.i64.wrap (c+1)=c+1:=Zp (by omega) (by omega)
 have hwl:IntKind.i64.wrap (lv+1)=lv+1:=Zp (by omega) (by omega)
 refine Zb [] [] Tryz.func266 rfl (by kernel_rfl) ?_;rw [Tryz.ntmps266,Tryz.results266]
 refine iw ?_
 refine VH (fun hm=>?_) (fun hm=>?_)
 ·have hm:c+1≤4000:=by simpa (disch:=omega) only [Zp,decide_eq_true_eq] using hm
  refine iw ?_
  refine ⟨fun hlv=>?_,fun hlv=>?_⟩
  ·refine (M5 (.mk s l)).use ?_
   try simp only [go_sem,seval,TB,gn,gd,ga,gw,h1,Ne.symm h1,n1,n2,n3,n4,hwc,hwl,Ty.kids]
   rw [ST (d:=d) gd h1,C5]
   have hsh:(wlk (Ty.mk s l).shape lv (c,d))=Xv (cU l) (lv+1) (c+1,max d lv):=by
    simp only [Ty.shape,wlk,if_pos hm,if_pos hlv]
   rw [hsh]
   refine Zw (mu:=[6]) (dr:=[]) [9,24,25,26,27,28,29,30,31,32,33] (fun x:Nat×(Int×Int)=>[(24,vi x.1)]) (fun x=>S2 σ bn bd x.2)
    (fun x=>x.1≤l.length∧Xv (cU (l.take x.1)) (lv+1) (c+1,max d lv)=(true,x.2)) (fun x=>l.length-x.1) (0,(c+1,max d lv)) (by kernel_rfl) ⟨by simp,by simp [cU,Xv]⟩ ?_ (.refl _) ?_
   ·exact ⟨.refl _,trivial⟩
   ·rintro ⟨i,st⟩ ⟨hi,hst⟩
    dsimp only at hi hst
    have hb:=RF (cU (l.take i)) (lv+1) (c+1,max d lv) (by dsimp only;omega) (by dsimp only;omega) (by dsimp only;omega) (by dsimp only;omega) (by omega) (by rw [hst])
    rw [hst] at hb
    dsimp only at hb
    obtain ⟨c1,d1⟩:=st
    dsimp only at hb
    try simp only [go_sem,seval,TB,bY,Rr gn h1,Rq gd h1,Si n1 n2,Si n3 n4,ga,gw,hwl]
    refine ⟨fun hi2=>⟨by omega,hi2,fun e he=>?_⟩,fun hi2=>?_⟩
    ·rw [Int.toNat_natCast] at he
     obtain ⟨a,ha,rfl⟩:=cT he
     have iha:=ih a (List.mem_of_getElem? ha)
     obtain ⟨sa,la⟩:=a
     try simp only [go_sem,seval,TB,cB]
     intro b9 hb9
     have m1:=Zt hb9 (Rr gn h1 (c1,d1))
     have m2:=Zt hb9 (Rq gd h1 (c1,d1))
     have m4:=Zt hb9 ((Si n3 n4 (c1,d1)).trans gw)
     try simp only [go_sem,seval,TB,cB,m1,m2,m4,Rr gn h1,Rq gd h1,Si n1 n2,Si n3 n4,ga,gw,hwl,Us]
     have hsplit:=Yz ha
     refine ((iha (lv+1) c1 d1 (S2 σ bn bd (c1,d1)) (by omega) (by omega) hb.1 hb.2.1 hb.2.2.1 hb.2.2.2 (Rr gn h1 _) (Rq gd h1 _) ((Si n1 n2 _).trans ga) ((Si n3 n4 _).trans gw)).sub (.cons _ _)).mono ?_
     rintro r _ ⟨rfl,rfl⟩
     rw [BC h1]
     have hsn:∀ x:Ty,cU (l.take i++[x])=cU (l.take i)++[x.shape]:=fun x=>by simp [dg]
     generalize hw:wlk (Ty.mk sa la).shape (lv+1) (c1,d1)=p
     obtain ⟨b,q⟩:=p
     cases b with
     | true =>
       try simp only [go_sem,seval,TB]
       have hw64:IntKind.i64.wrap ((i:Int)+1)=((i+1:Nat):Int):=Zp (by omega) (by omega)
       rw [hw64]
       refine .mk (i+1,q) ⟨by omega,?_⟩ (by dsimp only;omega) ⟨.refl _,trivial⟩ ?_ (.refl _)
       ·rw [List.take_add_one,ha]
        simp only [Option.toList_some]
        rw [hsn,PO _ _ _ _ _ hst,hw]
       ·repeat refine Zg.put rfl ?_
        exact hJ
     | false =>
       try simp only [go_sem,seval,TB]
       have he:Xv (cU l) (lv+1) (c+1,max d lv)=(false,q):=by
        rw [hsplit,dg,List.map_append,List.map_cons,← dg]
        exact PN _ _ _ _ _ _ _ hst hw
       rw [he]
       exact iK
    ·have hil:l.take i=l:=List.take_of_length_le (by omega)
     rw [hil] at hst
     rw [hst]
     exact iN
  ·rw [ST (d:=d) gd h1,C5]
   refine .mk (.refl _) (.refl _) ?_
   simp only [Ty.shape,wlk,if_pos hm,if_neg hlv,if_true,and_self]
 ·have hm:¬ c+1≤4000:=by simpa (disch:=omega) only [Zp,decide_eq_false_iff_not] using hm
  refine iw ?_
  rw [ST (d:=d) gd h1]
  refine .mk (.refl _) ?_
  simp only [Ty.shape,wlk,if_neg hm,Bool.false_eq_true,if_false,and_self]
abbrev Uc:Value:=.func (.func 209) #[] #[]
theorem Ly (bn bd ba bt:Nat)(h1:bn≠bd)(t:Ty)(σ:Store)(gn:σ.get bn=some (.cells [vi 0]))(gd:σ.get bd=some (.cells [vi 0]))(ga:σ.get ba=some (.cells [.val Uc]))(gt:σ.get bt=some (.cells t.emb)) :
 Zi Tryz.prog 265 [.val (.pointer (some ⟨bn,0,none⟩)),.val (.pointer (some ⟨bd,0,none⟩)),.val (.pointer (some ⟨ba,0,none⟩)),.val (.pointer (some ⟨bt,0,none⟩))] σ
  (fun r σ'=>σ'=S2 σ bn bd (wlk t.shape 1 (0,0)).2∧r=if (wlk t.shape 1 (0,0)).1 then .ret (.tup []) else .pan (YI 2)):=by
 obtain ⟨s,l⟩:=t
 simp only [cB] at gt
 refine Zb [] [] Tryz.func265 rfl (by kernel_rfl) ?_;rw [Tryz.ntmps265,Tryz.results265]
 try simp only [go_sem,seval,Jg]
 intro bw hbw
 have m1:=Zt hbw gn
 have m2:=Zt hbw gd
 have m3:=Zt hbw ga
 have m4:=Zt hbw gt
 try simp only [go_sem,seval,Jg,m1,m2,m3,m4,gt]
 refine (J2 bn bd ba bw h1 (.mk s l) 1 0 0 _ (by omega) (by omega) (by omega) (by omega) (by omega) (by omega) (by simp only [Store.get,if_neg m1];exact gn) (by simp only [Store.get,if_neg m2];exact gd) (by simp only [Store.get,if_neg m3];exact ga) (by simp only [Store.get,if_true,Us])).mono ?_
 rintro r _ ⟨rfl,rfl⟩
 rw [JY m1 m2]
 cases (wlk (Ty.mk s l).shape 1 (0,0)).1 with
 | true =>
   try simp only [go_sem,seval,Jg]
   exact ib
 | false =>
   try simp only [go_sem,seval,Jg]
   exact .mk (.cons _ _) ⟨rfl,rfl⟩
def QY (ba bw:Nat):Value:=.func (.func 272) #[] #[.pointer (some ⟨ba,0,none⟩),.pointer (some ⟨bw,0,none⟩)]
theorem Kz (ba bw:Nat):∀ (t:Ty) (lv:Int) (σ:Store),1≤lv→lv≤101→σ.get ba=some (.cells [.val Uc])→σ.get bw=some (.cells [.val (QY ba bw)]) →
 Zi Tryz.prog 272 [.agg t.emb,vi lv,.val (.pointer (some ⟨ba,0,none⟩)),.val (.pointer (some ⟨bw,0,none⟩))] σ (Yn (vi (V8 t.shape lv)) σ):=by
 intro t
 induction t using dF with | h s l ih=>?_
 intro lv σ hl1 hl2 ga gw
 refine Zi.ok (by kernel_rfl) (fun hok=>?_)
 have hlen:=(((hok _ List.mem_cons_self).agg (c:=.list .none 2 (cC l)) (by simp [cB])).len)
 rw [bY] at hlen
 clear hok
 simp only [cB]
 have hwl:IntKind.i64.wrap (lv+1)=lv+1:=Zp (by omega) (by omega)
 refine Zb [] [] Tryz.func272 rfl (by kernel_rfl) ?_;rw [Tryz.ntmps272,Tryz.results272]
 try simp only [go_sem,seval,RS]
 refine ⟨fun hlv=>?_,fun hlv=>?_⟩
 ·try simp only [go_sem,seval,RS,ga,gw]
  refine (M5 (.mk s l)).use ?_
  try simp only [go_sem,seval,RS,Ty.kids]
  have hsh:V8 (Ty.mk s l).shape lv=VM (cU l) (lv+1) lv:=by simp only [Ty.shape,V8,if_pos hlv]
  rw [hsh]
  refine Zw (mu:=[]) (dr:=[]) [7,9,17,18,19,20,21,22,23,24,25,26,27,28] (fun i:Nat=>[(17,vi i),(7,vi (VM (cU (l.take i)) (lv+1) lv))]) (fun _=>σ)
   (fun i=>i≤l.length) (fun i=>l.length-i) 0 (by kernel_rfl) (by omega) ⟨.refl _,.refl _,trivial⟩ (.refl _) ?_
  intro i hi
  try simp only [go_sem,seval,RS,bY,ga,gw,hwl]
  refine ⟨fun hi2=>⟨by omega,hi2,fun e he=>?_⟩,fun hi2=>?_⟩
  ·rw [Int.toNat_natCast] at he
   obtain ⟨a,ha,rfl⟩:=cT he
   have iha:=ih a (List.mem_of_getElem? ha)
   obtain ⟨sb,lb⟩:=a
   try simp only [go_sem,seval,RS,cB]
   intro b9 hb9
   have m1:=Zt hb9 ga
   have m2:=Zt hb9 gw
   try simp only [go_sem,seval,RS,cB,m1,m2,ga,gw,hwl,QY]
   refine ((iha (lv+1) σ (by omega) (by omega) ga gw).sub (.cons _ _)).mono ?_
   rintro r _ ⟨rfl,rfl⟩
   try simp only [go_sem,seval,RS]
   have hw64:IntKind.i64.wrap ((i:Int)+1)=((i+1:Nat):Int):=Zp (by omega) (by omega)
   rw [hw64]
   have hsn:VM (cU (l.take (i+1))) (lv+1) lv=max (VM (cU (l.take i)) (lv+1) lv) (V8 (Ty.mk sb lb).shape (lv+1)):=by
    rw [List.take_add_one,ha]
    simp only [Option.toList_some,dg,List.map_append,List.map_cons,List.map_nil]
    rw [QX]
   refine .mk (i+1) (by omega) (by omega) ⟨.refl _,?_,trivial⟩ ?_ (.refl _)
   ·rw [hsn];exact .refl _
   ·repeat refine Zg.put rfl ?_
    exact hJ
  ·have hil:l.take i=l:=List.take_of_length_le (by omega)
   rw [hil]
   exact Zv
 ·have hsh:V8 (Ty.mk s l).shape lv=lv:=by simp only [Ty.shape,V8,if_neg hlv]
  rw [hsh]
  exact Zv
theorem Nm (t:Ty):Pur Tryz.prog 267 [.agg t.emb,.val Uc] (vi (V8 t.shape 1)):=by
 intro σ
 obtain ⟨s,l⟩:=t
 simp only [cB]
 refine Zb [2,3] [] Tryz.func267 rfl (by kernel_rfl) ?_;rw [Tryz.ntmps267,Tryz.results267]
 try simp only [go_sem,seval,Ga]
 rintro b hb b1 ⟨m1,hb1⟩ b2 ⟨m2,m3,hb2⟩
 try simp only [go_sem,seval,Ga,m1,m2,m3,Ne.symm m1,Ne.symm m2,Ne.symm m3]
 refine (Kz b1 b2 (.mk s l) 1 _ (by omega) (by omega) (by simp only [Store.get,if_neg (Ne.symm m2),if_true]) (by simp only [Store.get,if_true,QY])).mono ?_
 rintro r _ ⟨rfl,rfl⟩
 try simp only [go_sem,seval,Ga]
 exact ZF (.refl _) (((Sub.refl σ).skip _).skip _ |>.skip _)
theorem Pq (t:Ty):Pur Tryz.prog 251 [.agg t.emb,.val Uc] (.tup [vi (Qn t.shape).1,vi (Qn t.shape).2]):=by
 intro σ
 obtain ⟨s,l⟩:=t
 simp only [cB]
 refine Zb [2,3] [(3,2,1)] Tryz.func251 rfl (by kernel_rfl) ?_;rw [Tryz.ntmps251,Tryz.results251]
 try simp only [go_sem,seval,Ji]
 rintro b2 hb2 b3 ⟨m23,hb3⟩ b4 ⟨m34,m24,hb4⟩ b5 ⟨m45,m35,m25,hb5⟩
 refine UY _ _ _ (fun b ⟨q5,q4,q3,q2,hb⟩=>?_)
 rw [Y8]
 have h1:b4≠b5:=m45
 refine (Ly b4 b5 b3 b2 m45 (.mk s l) _ ?_ ?_ ?_ ?_).mono ?_
 ·simp [Store.get,Ne.symm q4,m45,Ne.symm m45]
 ·simp [Store.get,Ne.symm q5]
 ·simp [Store.get,Ne.symm q3,Ne.symm m35,Ne.symm m34]
 ·simp [Store.get,cB,Ne.symm q2,Ne.symm m25,Ne.symm m24,Ne.symm m23]
 rintro r _ ⟨rfl,rfl⟩
 have hst:∀ st:Int×Int,S2 ((b,AObj.cells [vi 0])::(b5,.cells [vi 0])::(b4,.cells [vi 0])::(b3,.cells [.val Uc])::(b2,.cells (Ty.mk s l).emb)::σ) b4 b5 st=(b,.cells [vi 0])::(b5,.cells [vi st.2])::(b4,.cells [vi st.1])::(b3,.cells [.val Uc])::(b2,.cells (Ty.mk s l).emb)::σ:=by
  intro st
  simp [S2,Store.set,Ne.symm q4,Ne.symm q5,Ne.symm m45]
 refine ⟨_,hst _,?_⟩
 have hm:Qn (Ty.mk s l).shape=if (wlk (Ty.mk s l).shape 1 (0,0)).1 then (wlk (Ty.mk s l).shape 1 (0,0)).2 else ((wlk (Ty.mk s l).shape 1 (0,0)).2.1,V8 (Ty.mk s l).shape 1):=rfl
 rw [hm]
 generalize wlk (Ty.mk s l).shape 1 (0,0)=p
 obtain ⟨ok,c,d⟩:=p
 have e45:=Ne.symm m45
 have e34:=Ne.symm m34
 have e35:=Ne.symm m35
 have e24:=Ne.symm m24
 have e25:=Ne.symm m25
 have e23:=Ne.symm m23
 cases ok with
 | true =>
   try simp only [go_sem,seval,Ji,m23,m34,m24,m45,m35,m25,e23,e34,e24,e45,e35,e25]
   refine .mk (.refl _) ?_ ⟨rfl,rfl⟩
   repeat first | exact .refl _ | refine .skip _ ?_
 | false =>
   refine ⟨2,rfl,?_⟩
   try simp only [go_sem,seval,Ji,m23,m34,m24,m45,m35,m25,e23,e34,e24,e45,e35,e25,cB]
   refine (Nm (.mk s l)).use ?_
   try simp only [go_sem,seval,Ji,m23,m34,m24,m45,m35,m25,e23,e34,e24,e45,e35,e25,cB]
   refine .mk (.refl _) ?_ ⟨rfl,rfl⟩
   repeat first | exact .refl _ | refine .skip _ ?_
theorem LK (t:Ty):Pur Tryz.prog 208 [.agg t.emb,.val Uc] (vi (X6 t.shape)):=by
 intro σ
 have hm:=Pq t
 obtain ⟨s,l⟩:=t
 simp only [cB] at hm ⊢
 refine Zb [] [] Tryz.func208 rfl (by kernel_rfl) ?_;rw [Tryz.ntmps208,Tryz.results208]
 try simp only [go_sem,seval,Bh]
 refine hm.use ?_
 unfold X6
 generalize Qn (Ty.mk s l).shape=p
 try simp only [go_sem,seval,Bh]
 refine ⟨fun h=>?_,fun h=>⟨fun h2=>?_,fun h2=>?_⟩⟩
 ·rw [if_pos h];exact Zv
 ·rw [if_neg h,if_pos h2];exact Zv
 ·rw [if_neg h,if_neg h2];exact Zv
end Go.Vx
