/- Part Q20 of the proof of treeCaughtProved: the walk of the program on abstract values, and the plain law. -/
import Derived.Test.YtmedmnondjmleaaGreatQ14
set_option linter.unusedVariables false
set_option linter.unusedSimpArgs false
set_option maxRecDepth 100000
namespace Go.Vx
open Go.Proofs
mutual
def wlk:Ro→Int→Int×Int→Bool×(Int×Int)
  | .mk l,lv,(c,d)=>if c+1≤4000 then (if lv≤100 then wlks l (lv+1) (c+1,max d lv) else (true,(c+1,max d lv))) else (false,(c+1,d))
def wlks:List Ro→Int→Int×Int→Bool×(Int×Int)
  | [],_,st=>(true,st)
  | t::r,lv,st=>match wlk t lv st with
    | (true,st')=>wlks r lv st'
    | (false,st')=>(false,st')
end
/-- The store of a walk: two cells are told. -/
def S2 (σ:Store)(a b:Nat)(st:Int×Int):Store:=(σ.set a (.cells [vi st.1])).set b (.cells [vi st.2])
theorem set_comm {σ:Store}{a b:Nat}{x y:AObj}(h:a≠b):(σ.set a x).set b y=(σ.set b y).set a x:=by
  induction σ with
  | nil=>rfl
  | cons p r ih =>
    obtain ⟨c,z⟩:=p
    simp only [Store.set]
    by_cases e1:c=a
    · have e2:¬ c=b:=fun e=>h (e1 ▸ e)
      simp [e1,e2,Store.set,h]
    · by_cases e2:c=b
      · simp [e1,e2,Store.set,Ne.symm h]
      · simp [e1,e2,Store.set,ih]
section
variable {σ:Store} {a b:Nat} {c d c' d':Int}
theorem S2_one (hb:σ.get b=some (.cells [vi d]))(h:a≠b):σ.set a (.cells [vi c])=S2 σ a b (c,d):=by
  unfold S2;exact (set_get (by rw [get_set_ne (Ne.symm h)];exact hb)).symm
theorem S2_b:(S2 σ a b (c,d)).set b (.cells [vi d'])=S2 σ a b (c,d'):=by
  unfold S2;rw [set_set]
theorem S2_S2 (h:a≠b){st st':Int×Int}:S2 (S2 σ a b st) a b st'=S2 σ a b st':=by
  unfold S2;rw [set_comm (Ne.symm h),set_set,set_set]
theorem S2_ga {x:AObj}(ha:σ.get a=some x)(h:a≠b)(st:Int×Int):(S2 σ a b st).get a=some (.cells [vi st.1]):=by
  unfold S2;rw [get_set_ne h,get_set_same ha]
theorem S2_gb {x:AObj}(hb:σ.get b=some x)(h:a≠b)(st:Int×Int):(S2 σ a b st).get b=some (.cells [vi st.2]):=by
  unfold S2;exact get_set_same (x:=x) (by rw [get_set_ne (Ne.symm h)];exact hb)
theorem S2_g {k:Nat}(h1:k≠a)(h2:k≠b)(st:Int×Int):(S2 σ a b st).get k=σ.get k:=by
  unfold S2;rw [get_set_ne h2,get_set_ne h1]
end
mutual
theorem wlk_bd:∀ (t:Ro) (lv:Int) (st:Int×Int),0≤st.1→st.1≤4000→0≤st.2→st.2≤101→lv≤101→(wlk t lv st).1=true→0≤(wlk t lv st).2.1∧(wlk t lv st).2.1≤4000∧0≤(wlk t lv st).2.2∧(wlk t lv st).2.2≤101
  | .mk l,lv,(c,d),h1,h2,h3,h4,h5,hk=>by
    simp only [wlk] at hk ⊢
    simp only at h1 h2 h3 h4
    by_cases e:c+1≤4000
    · rw [if_pos e] at hk ⊢
      by_cases e2:lv≤100
      · rw [if_pos e2] at hk ⊢
        exact wlks_bd l (lv+1) (c+1,max d lv) (by simp only;omega) e (by simp only;omega) (by simp only;omega) (by omega) hk
      · rw [if_neg e2]
        simp only
        omega
    · rw [if_neg e] at hk;cases hk
theorem wlks_bd:∀ (l:List Ro) (lv:Int) (st:Int×Int),0≤st.1→st.1≤4000→0≤st.2→st.2≤101→lv≤101→(wlks l lv st).1=true→0≤(wlks l lv st).2.1∧(wlks l lv st).2.1≤4000∧0≤(wlks l lv st).2.2∧(wlks l lv st).2.2≤101
  | [],lv,st,h1,h2,h3,h4,h5,hk=>by simp only [wlks];exact ⟨h1,h2,h3,h4⟩
  | t::r,lv,st,h1,h2,h3,h4,h5,hk=>by
    simp only [wlks] at hk ⊢
    have ht:=wlk_bd t lv st h1 h2 h3 h4 h5
    generalize wlk t lv st=p at hk ht ⊢
    obtain ⟨b,q⟩:=p
    cases b with
    | true=>exact wlks_bd r lv q (ht rfl).1 (ht rfl).2.1 (ht rfl).2.2.1 (ht rfl).2.2.2 h5 hk
    | false=>cases hk
end
theorem wlks_snoc (l:List Ro)(t:Ro)(lv:Int):∀ st st',wlks l lv st=(true,st')→wlks (l++[t]) lv st=wlk t lv st':=by
  induction l with
  | nil=>intro st st' h;simp only [wlks,Prod.mk.injEq,true_and] at h;subst h;simp only [List.nil_append,wlks];generalize wlk t lv st=p;obtain ⟨b,q⟩:=p;cases b<;>rfl
  | cons x r ih =>
    intro st st' h
    simp only [wlks,List.cons_append] at h ⊢
    generalize wlk x lv st=p at h ⊢
    obtain ⟨b,q⟩:=p
    cases b with
    | true=>exact ih q st' h
    | false=>simp at h
theorem wlks_stop (l:List Ro)(t:Ro)(r:List Ro)(lv:Int):∀ st st' st'',wlks l lv st=(true,st')→wlk t lv st'=(false,st'')→wlks (l++t::r) lv st=(false,st''):=by
  induction l with
  | nil=>intro st st' st'' h k;simp only [wlks,Prod.mk.injEq,true_and] at h;subst h;simp only [List.nil_append,wlks,k]
  | cons x r ih =>
    intro st st' st'' h k
    simp only [wlks,List.cons_append] at h ⊢
    generalize wlk x lv st=p at h ⊢
    obtain ⟨b,q⟩:=p
    cases b with
    | true=>exact ih q st' st'' h k
    | false=>simp at h
theorem S2_cons {σ:Store}{a b k:Nat}{x:AObj}{st:Int×Int}(h1:k≠a)(h2:k≠b):S2 ((k,x)::σ) a b st=(k,x)::S2 σ a b st:=by
  unfold S2;simp only [Store.set];rw [if_neg h1];simp only [Store.set];rw [if_neg h2]
mutual
def deep:Ro→Int→Int
  | .mk l,lv=>if lv≤100 then deeps l (lv+1) lv else lv
def deeps:List Ro→Int→Int→Int
  | [],_,o=>o
  | t::r,lv,o=>deeps r lv (max o (deep t lv))
end
theorem deeps_snoc (l:List Ro)(t:Ro)(lv:Int):∀ o,deeps (l++[t]) lv o=max (deeps l lv o) (deep t lv):=by
  induction l with
  | nil=>intro o;rfl
  | cons x r ih=>intro o;simp only [List.cons_append,deeps];exact ih _
/-- Nodes and depth of a tree. -/
def meas (t:Ro):Int×Int:=if (wlk t 1 (0,0)).1 then (wlk t 1 (0,0)).2 else ((wlk t 1 (0,0)).2.1,deep t 1)
/-- The error of a tree's size. -/
def sizedE (t:Ro):Int:=if 4000<(meas t).1 then 2 else if 100<(meas t).2 then 5 else 0
theorem tb184:(szOf Tryz.prog 3=some 1)∧(aggOf Tryz.prog 3=some false)∧(szOf Tryz.prog 163=some 1)∧(aggOf Tryz.prog 163=some false)∧(szOf Tryz.prog 52=some 4)∧(aggOf Tryz.prog 52=some true)∧(elOf Tryz.prog 33=some 52)∧(zeroOf Tryz.prog 52=some (.agg #[(.int .i64 0),(.int .i64 0),(.string ⟨#[]⟩),(.slice none 0 0)]))∧(szOf Tryz.prog 247=some 1)∧(aggOf Tryz.prog 247=some false)∧(Tryz.prog.underlying 33=some (.slice 52)):=by
  refine ⟨?_,?_,?_,?_,?_,?_,?_,?_,?_,?_,?_⟩<;>first | trivial | kernel_rfl
theorem tb100:(fOff Tryz.prog 52 3=some 3)∧(szOf Tryz.prog 33=some 1)∧(aggOf Tryz.prog 33=some false):=by
  refine ⟨?_,?_,?_⟩<;>first | trivial | kernel_rfl
theorem tb183:(zeroOf Tryz.prog 247=some .nilFunc)∧(szOf Tryz.prog 247=some 1)∧(aggOf Tryz.prog 247=some false)∧(szOf Tryz.prog 52=some 4)∧(aggOf Tryz.prog 52=some true):=by
  refine ⟨?_,?_,?_,?_,?_⟩<;>first | trivial | kernel_rfl
theorem tb138:(zeroOf Tryz.prog 3=some (.int .i64 0))∧(szOf Tryz.prog 52=some 4)∧(aggOf Tryz.prog 52=some true)∧(szOf Tryz.prog 163=some 1)∧(aggOf Tryz.prog 163=some false)∧(szOf Tryz.prog 3=some 1)∧(aggOf Tryz.prog 3=some false):=by
  refine ⟨?_,?_,?_,?_,?_,?_,?_⟩<;>first | trivial | kernel_rfl
theorem tb237:(szOf Tryz.prog 163=some 1)∧(aggOf Tryz.prog 163=some false)∧(szOf Tryz.prog 52=some 4)∧(aggOf Tryz.prog 52=some true)∧(elOf Tryz.prog 33=some 52)∧(zeroOf Tryz.prog 52=some (.agg #[(.int .i64 0),(.int .i64 0),(.string ⟨#[]⟩),(.slice none 0 0)]))∧(szOf Tryz.prog 174=some 1)∧(aggOf Tryz.prog 174=some false)∧(Tryz.prog.underlying 33=some (.slice 52)):=by
  refine ⟨?_,?_,?_,?_,?_,?_,?_,?_,?_⟩<;>first | trivial | kernel_rfl
theorem tb185:(zeroOf Tryz.prog 174=some .nilFunc)∧(szOf Tryz.prog 174=some 1)∧(aggOf Tryz.prog 174=some false)∧(szOf Tryz.prog 52=some 4)∧(aggOf Tryz.prog 52=some true):=by
  refine ⟨?_,?_,?_,?_,?_⟩<;>first | trivial | kernel_rfl
theorem tb99:(szOf Tryz.prog 52=some 4)∧(aggOf Tryz.prog 52=some true):=by
  refine ⟨?_,?_⟩<;>first | trivial | kernel_rfl
theorem argsTm_c (t:Tm):Pur Tryz.prog 100 [.agg t.emb] (.list .none 4 (Tm.embs t.kids)):=by
  intro σ
  obtain ⟨k,n,s,l⟩:=t
  simp only [Tm.emb_mk,Tm.kids]
  refine acalls_of [] [] Tryz.func100 rfl (by kernel_rfl) ?_;rw [Tryz.ntmps100,Tryz.results100]
  try simp only [go_sem,seval,tb100]
  exact fin_same
def walkV_Tm (bn bd ba bw:Nat):Value:=.func (.func 184) #[] #[.pointer (some ⟨bn,0,none⟩),.pointer (some ⟨bd,0,none⟩),.pointer (some ⟨ba,0,none⟩),.pointer (some ⟨bw,0,none⟩)]
theorem walk_c_Tm (bn bd ba bw:Nat)(h1:bn≠bd):∀ (t:Tm) (lv c d:Int) (σ:Store),1≤lv→lv≤101→0≤c→c≤4000→0≤d→d≤101 →
    σ.get bn=some (.cells [vi c])→σ.get bd=some (.cells [vi d])→σ.get ba=some (.cells [.val (.func (.func 100) #[] #[])])→σ.get bw=some (.cells [.val (walkV_Tm bn bd ba bw)]) →
    ACalls Tryz.prog 184 [.agg t.emb,vi lv,.val (.pointer (some ⟨bn,0,none⟩)),.val (.pointer (some ⟨bd,0,none⟩)),.val (.pointer (some ⟨ba,0,none⟩)),.val (.pointer (some ⟨bw,0,none⟩))] σ
      (fun r σ'=>σ'=S2 σ bn bd (wlk t.shape lv (c,d)).2∧r=if (wlk t.shape lv (c,d)).1 then .ret (.tup []) else .pan (termFault 2)):=by
  intro t
  induction t using Tm.ind with | h k n s l ih=>?_
  intro lv c d σ hl1 hl2 hc0 hc1 hd0 hd1 gn gd ga gw
  refine ACalls.ok (by kernel_rfl) (fun hok=>?_)
  have hlen:=(((hok _ List.mem_cons_self).agg (c:=.list .none 4 (Tm.embs l)) (by simp [Tm.emb_mk])).len)
  rw [Tm.embs_len] at hlen
  clear hok
  simp only [Tm.emb_mk]
  have n1:ba≠bn:=by intro e;rw [e,gn] at ga;simp at ga
  have n2:ba≠bd:=by intro e;rw [e,gd] at ga;simp at ga
  have n3:bw≠bn:=by intro e;rw [e,gn] at gw;simp [walkV_Tm] at gw
  have n4:bw≠bd:=by intro e;rw [e,gd] at gw;simp [walkV_Tm] at gw
  have hwc:IntKind.i64.wrap (c+1)=c+1:=wrap64 (by omega) (by omega)
  have hwl:IntKind.i64.wrap (lv+1)=lv+1:=wrap64 (by omega) (by omega)
  refine acalls_of [] [] Tryz.func184 rfl (by kernel_rfl) ?_;rw [Tryz.ntmps184,Tryz.results184]
  try simp only [go_sem,seval,tb184,gn,gd,ga,gw,h1,Ne.symm h1,n1,n2,n3,n4,hwc]
  refine must_use (fun hm=>?_) (fun hm=>?_)
  · have hm:c+1≤4000:=by simpa (disch:=omega) only [wrap64,decide_eq_true_eq] using hm
    try simp only [go_sem,seval,tb184,gn,gd,ga,gw,h1,Ne.symm h1,n1,n2,n3,n4,hwc]
    refine ⟨fun hlv=>?_,fun hlv=>?_⟩
    · refine (argsTm_c (.mk k n s l)).use ?_
      try simp only [go_sem,seval,tb184,gn,gd,ga,gw,h1,Ne.symm h1,n1,n2,n3,n4,hwc,hwl,Tm.kids]
      rw [S2_one (d:=d) gd h1,S2_b]
      have hsh:(wlk (Tm.mk k n s l).shape lv (c,d))=wlks (Tm.shapes l) (lv+1) (c+1,max d lv):=by
        simp only [Tm.shape,wlk,if_pos hm,if_pos hlv]
      rw [hsh]
      refine aloopT (mu:=[6]) (dr:=[]) [9,24,25,26,27,28,29,30,31,32,33] (fun x:Nat×(Int×Int)=>[(24,vi x.1)]) (fun x=>S2 σ bn bd x.2)
        (fun x=>x.1≤l.length∧wlks (Tm.shapes (l.take x.1)) (lv+1) (c+1,max d lv)=(true,x.2)) (fun x=>l.length-x.1) (0,(c+1,max d lv)) (by kernel_rfl) ⟨by simp,by simp [Tm.shapes,wlks]⟩ ?_ (.refl _) ?_
      · exact ⟨.refl _,trivial⟩
      · rintro ⟨i,st⟩ ⟨hi,hst⟩
        dsimp only at hi hst
        have hb:=wlks_bd (Tm.shapes (l.take i)) (lv+1) (c+1,max d lv) (by dsimp only;omega) (by dsimp only;omega) (by dsimp only;omega) (by dsimp only;omega) (by omega) (by rw [hst])
        rw [hst] at hb
        dsimp only at hb
        obtain ⟨c1,d1⟩:=st
        dsimp only at hb
        try simp only [go_sem,seval,tb184,Tm.embs_len,S2_ga gn h1,S2_gb gd h1,S2_g n1 n2,S2_g n3 n4,ga,gw,hwl]
        refine ⟨fun hi2=>⟨by omega,hi2,fun e he=>?_⟩,fun hi2=>?_⟩
        · rw [Int.toNat_natCast] at he
          obtain ⟨a,ha,rfl⟩:=Tm.embs_get he
          have iha:=ih a (List.mem_of_getElem? ha)
          obtain ⟨ka,na,sa,la⟩:=a
          try simp only [go_sem,seval,tb184,Tm.emb_mk]
          intro b9 hb9
          have m1:=fresh_ne hb9 (S2_ga gn h1 (c1,d1))
          have m2:=fresh_ne hb9 (S2_gb gd h1 (c1,d1))
          have m4:=fresh_ne hb9 ((S2_g n3 n4 (c1,d1)).trans gw)
          try simp only [go_sem,seval,tb184,Tm.emb_mk,m1,m2,m4,S2_ga gn h1,S2_gb gd h1,S2_g n1 n2,S2_g n3 n4,ga,gw,hwl,walkV_Tm]
          have hsplit:=split_at ha
          refine ((iha (lv+1) c1 d1 (S2 σ bn bd (c1,d1)) (by omega) (by omega) hb.1 hb.2.1 hb.2.2.1 hb.2.2.2 (S2_ga gn h1 _) (S2_gb gd h1 _) ((S2_g n1 n2 _).trans ga) ((S2_g n3 n4 _).trans gw)).sub (.cons _ _)).mono ?_
          rintro r _ ⟨rfl,rfl⟩
          rw [S2_S2 h1]
          have hsn:∀ x:Tm,Tm.shapes (l.take i++[x])=Tm.shapes (l.take i)++[x.shape]:=fun x=>by simp [Tm.shapes_eq]
          generalize hw:wlk (Tm.mk ka na sa la).shape (lv+1) (c1,d1)=p
          obtain ⟨b,q⟩:=p
          cases b with
          | true =>
            try simp only [go_sem,seval,tb184]
            have hw64:IntKind.i64.wrap ((i:Int)+1)=((i+1:Nat):Int):=wrap64 (by omega) (by omega)
            rw [hw64]
            refine .mk (i+1,q) ⟨by omega,?_⟩ (by dsimp only;omega) ⟨.refl _,trivial⟩ ?_ (.refl _)
            · rw [List.take_add_one,ha]
              simp only [Option.toList_some]
              rw [hsn,wlks_snoc _ _ _ _ _ hst,hw]
            · repeat refine Keeps.put rfl ?_
              exact Keeps.turn _ rfl
          | false =>
            try simp only [go_sem,seval,tb184]
            have he:wlks (Tm.shapes l) (lv+1) (c+1,max d lv)=(false,q):=by
              rw [hsplit,Tm.shapes_eq,List.map_append,List.map_cons,← Tm.shapes_eq]
              exact wlks_stop _ _ _ _ _ _ _ hst hw
            rw [he]
            exact .mk (.refl _) ⟨rfl,rfl⟩
        · have hil:l.take i=l:=List.take_of_length_le (by omega)
          rw [hil] at hst
          rw [hst]
          exact .mk (.refl _) (.refl _) ⟨rfl,rfl⟩
    · rw [S2_one (d:=d) gd h1,S2_b]
      refine .mk (.refl _) (.refl _) ?_
      simp only [Tm.shape,wlk,if_pos hm,if_neg hlv,if_true,and_self]
  · have hm:¬ c+1≤4000:=by simpa (disch:=omega) only [wrap64,decide_eq_false_iff_not] using hm
    try simp only [go_sem,seval,tb184,gn,gd,ga,gw,h1,Ne.symm h1,n1,n2,n3,n4,hwc]
    rw [S2_one (d:=d) gd h1]
    refine .mk (.refl _) ?_
    simp only [Tm.shape,wlk,if_neg hm,Bool.false_eq_true,if_false,and_self]
abbrev argsTmV:Value:=.func (.func 100) #[] #[]
theorem walk0_c_Tm (bn bd ba bt:Nat)(h1:bn≠bd)(t:Tm)(σ:Store)(gn:σ.get bn=some (.cells [vi 0]))(gd:σ.get bd=some (.cells [vi 0]))(ga:σ.get ba=some (.cells [.val argsTmV]))(gt:σ.get bt=some (.cells t.emb)) :
    ACalls Tryz.prog 183 [.val (.pointer (some ⟨bn,0,none⟩)),.val (.pointer (some ⟨bd,0,none⟩)),.val (.pointer (some ⟨ba,0,none⟩)),.val (.pointer (some ⟨bt,0,none⟩))] σ
      (fun r σ'=>σ'=S2 σ bn bd (wlk t.shape 1 (0,0)).2∧r=if (wlk t.shape 1 (0,0)).1 then .ret (.tup []) else .pan (termFault 2)):=by
  obtain ⟨k,n,s,l⟩:=t
  simp only [Tm.emb_mk] at gt
  refine acalls_of [] [] Tryz.func183 rfl (by kernel_rfl) ?_;rw [Tryz.ntmps183,Tryz.results183]
  try simp only [go_sem,seval,tb183]
  intro bw hbw
  have m1:=fresh_ne hbw gn
  have m2:=fresh_ne hbw gd
  have m3:=fresh_ne hbw ga
  have m4:=fresh_ne hbw gt
  try simp only [go_sem,seval,tb183,m1,m2,m3,m4,gt]
  refine (walk_c_Tm bn bd ba bw h1 (.mk k n s l) 1 0 0 _ (by omega) (by omega) (by omega) (by omega) (by omega) (by omega) (by simp only [Store.get,if_neg m1];exact gn) (by simp only [Store.get,if_neg m2];exact gd) (by simp only [Store.get,if_neg m3];exact ga) (by simp only [Store.get,if_true,walkV_Tm])).mono ?_
  rintro r _ ⟨rfl,rfl⟩
  rw [S2_cons m1 m2]
  cases (wlk (Tm.mk k n s l).shape 1 (0,0)).1 with
  | true =>
    try simp only [go_sem,seval,tb183]
    exact .mk (.refl _) (.cons _ _) ⟨rfl,rfl⟩
  | false =>
    try simp only [go_sem,seval,tb183]
    exact .mk (.cons _ _) ⟨rfl,rfl⟩
def deepV_Tm (ba bw:Nat):Value:=.func (.func 237) #[] #[.pointer (some ⟨ba,0,none⟩),.pointer (some ⟨bw,0,none⟩)]
theorem deep1_c_Tm (ba bw:Nat):∀ (t:Tm) (lv:Int) (σ:Store),1≤lv→lv≤101→σ.get ba=some (.cells [.val argsTmV])→σ.get bw=some (.cells [.val (deepV_Tm ba bw)]) →
    ACalls Tryz.prog 237 [.agg t.emb,vi lv,.val (.pointer (some ⟨ba,0,none⟩)),.val (.pointer (some ⟨bw,0,none⟩))] σ (kOnly (vi (deep t.shape lv)) σ):=by
  intro t
  induction t using Tm.ind with | h k n s l ih=>?_
  intro lv σ hl1 hl2 ga gw
  refine ACalls.ok (by kernel_rfl) (fun hok=>?_)
  have hlen:=(((hok _ List.mem_cons_self).agg (c:=.list .none 4 (Tm.embs l)) (by simp [Tm.emb_mk])).len)
  rw [Tm.embs_len] at hlen
  clear hok
  simp only [Tm.emb_mk]
  have hwl:IntKind.i64.wrap (lv+1)=lv+1:=wrap64 (by omega) (by omega)
  refine acalls_of [] [] Tryz.func237 rfl (by kernel_rfl) ?_;rw [Tryz.ntmps237,Tryz.results237]
  try simp only [go_sem,seval,tb237]
  refine ⟨fun hlv=>?_,fun hlv=>?_⟩
  · try simp only [go_sem,seval,tb237,ga,gw]
    refine (argsTm_c (.mk k n s l)).use ?_
    try simp only [go_sem,seval,tb237,Tm.kids]
    have hsh:deep (Tm.mk k n s l).shape lv=deeps (Tm.shapes l) (lv+1) lv:=by simp only [Tm.shape,deep,if_pos hlv]
    rw [hsh]
    refine aloopT (mu:=[]) (dr:=[]) [7,9,17,18,19,20,21,22,23,24,25,26,27,28] (fun i:Nat=>[(17,vi i),(7,vi (deeps (Tm.shapes (l.take i)) (lv+1) lv))]) (fun _=>σ)
        (fun i=>i≤l.length) (fun i=>l.length-i) 0 (by kernel_rfl) (by omega) ⟨.refl _,.refl _,trivial⟩ (.refl _) ?_
    intro i hi
    try simp only [go_sem,seval,tb237,Tm.embs_len,ga,gw,hwl]
    refine ⟨fun hi2=>⟨by omega,hi2,fun e he=>?_⟩,fun hi2=>?_⟩
    · rw [Int.toNat_natCast] at he
      obtain ⟨a,ha,rfl⟩:=Tm.embs_get he
      have iha:=ih a (List.mem_of_getElem? ha)
      obtain ⟨kb,nb,sb,lb⟩:=a
      try simp only [go_sem,seval,tb237,Tm.emb_mk]
      intro b9 hb9
      have m1:=fresh_ne hb9 ga
      have m2:=fresh_ne hb9 gw
      try simp only [go_sem,seval,tb237,Tm.emb_mk,m1,m2,ga,gw,hwl,deepV_Tm]
      refine ((iha (lv+1) σ (by omega) (by omega) ga gw).sub (.cons _ _)).mono ?_
      rintro r _ ⟨rfl,rfl⟩
      try simp only [go_sem,seval,tb237]
      have hw64:IntKind.i64.wrap ((i:Int)+1)=((i+1:Nat):Int):=wrap64 (by omega) (by omega)
      rw [hw64]
      have hsn:deeps (Tm.shapes (l.take (i+1))) (lv+1) lv=max (deeps (Tm.shapes (l.take i)) (lv+1) lv) (deep (Tm.mk kb nb sb lb).shape (lv+1)):=by
        rw [List.take_add_one,ha]
        simp only [Option.toList_some,Tm.shapes_eq,List.map_append,List.map_cons,List.map_nil]
        rw [deeps_snoc]
      refine .mk (i+1) (by omega) (by omega) ⟨.refl _,?_,trivial⟩ ?_ (.refl _)
      · rw [hsn];exact .refl _
      · repeat refine Keeps.put rfl ?_
        exact Keeps.turn _ rfl
    · have hil:l.take i=l:=List.take_of_length_le (by omega)
      rw [hil]
      exact fin_same
  · have hsh:deep (Tm.mk k n s l).shape lv=lv:=by simp only [Tm.shape,deep,if_neg hlv]
    rw [hsh]
    exact fin_same
theorem deepest_c_Tm (t:Tm):Pur Tryz.prog 185 [.agg t.emb,.val argsTmV] (vi (deep t.shape 1)):=by
  intro σ
  obtain ⟨k,n,s,l⟩:=t
  simp only [Tm.emb_mk]
  refine acalls_of [2,3] [] Tryz.func185 rfl (by kernel_rfl) ?_;rw [Tryz.ntmps185,Tryz.results185]
  try simp only [go_sem,seval,tb185]
  rintro b hb b1 ⟨m1,hb1⟩ b2 ⟨m2,m3,hb2⟩
  try simp only [go_sem,seval,tb185,m1,m2,m3,Ne.symm m1,Ne.symm m2,Ne.symm m3]
  refine (deep1_c_Tm b1 b2 (.mk k n s l) 1 _ (by omega) (by omega) (by simp only [Store.get,if_neg (Ne.symm m2),if_true]) (by simp only [Store.get,if_true,deepV_Tm])).mono ?_
  rintro r _ ⟨rfl,rfl⟩
  try simp only [go_sem,seval,tb185]
  exact fin_pur (.refl _) (((Sub.refl σ).skip _).skip _ |>.skip _)
theorem measured_c_Tm (t:Tm):Pur Tryz.prog 138 [.agg t.emb,.val argsTmV] (.tup [vi (meas t.shape).1,vi (meas t.shape).2]):=by
  intro σ
  obtain ⟨k,n,s,l⟩:=t
  simp only [Tm.emb_mk]
  refine acalls_of [2,3] [(3,2,1)] Tryz.func138 rfl (by kernel_rfl) ?_;rw [Tryz.ntmps138,Tryz.results138]
  try simp only [go_sem,seval,tb138]
  rintro b2 hb2 b3 ⟨m23,hb3⟩ b4 ⟨m34,m24,hb4⟩ b5 ⟨m45,m35,m25,hb5⟩
  refine guarded_c _ _ _ (fun b ⟨q5,q4,q3,q2,hb⟩=>?_)
  rw [inv_of]
  have h1:b4≠b5:=m45
  refine (walk0_c_Tm b4 b5 b3 b2 m45 (.mk k n s l) _ ?_ ?_ ?_ ?_).mono ?_
  · simp [Store.get,Ne.symm q4,m45,Ne.symm m45]
  · simp [Store.get,Ne.symm q5]
  · simp [Store.get,Ne.symm q3,Ne.symm m35,Ne.symm m34]
  · simp [Store.get,Tm.emb_mk,Ne.symm q2,Ne.symm m25,Ne.symm m24,Ne.symm m23]
  rintro r _ ⟨rfl,rfl⟩
  have hst:∀ st:Int×Int,S2 ((b,AObj.cells [vi 0])::(b5,.cells [vi 0])::(b4,.cells [vi 0])::(b3,.cells [.val argsTmV])::(b2,.cells (Tm.mk k n s l).emb)::σ) b4 b5 st=(b,.cells [vi 0])::(b5,.cells [vi st.2])::(b4,.cells [vi st.1])::(b3,.cells [.val argsTmV])::(b2,.cells (Tm.mk k n s l).emb)::σ:=by
    intro st
    simp [S2,Store.set,Ne.symm q4,Ne.symm q5,Ne.symm m45]
  refine ⟨_,hst _,?_⟩
  have hm:meas (Tm.mk k n s l).shape=if (wlk (Tm.mk k n s l).shape 1 (0,0)).1 then (wlk (Tm.mk k n s l).shape 1 (0,0)).2 else ((wlk (Tm.mk k n s l).shape 1 (0,0)).2.1,deep (Tm.mk k n s l).shape 1):=rfl
  rw [hm]
  generalize wlk (Tm.mk k n s l).shape 1 (0,0)=p
  obtain ⟨ok,c,d⟩:=p
  have e45:=Ne.symm m45
  have e34:=Ne.symm m34
  have e35:=Ne.symm m35
  have e24:=Ne.symm m24
  have e25:=Ne.symm m25
  have e23:=Ne.symm m23
  cases ok with
  | true =>
    try simp only [go_sem,seval,tb138,m23,m34,m24,m45,m35,m25,e23,e34,e24,e45,e35,e25]
    refine .mk (.refl _) ?_ ⟨rfl,rfl⟩
    repeat first | exact .refl _ | refine .skip _ ?_
  | false =>
    refine ⟨2,rfl,?_⟩
    try simp only [go_sem,seval,tb138,m23,m34,m24,m45,m35,m25,e23,e34,e24,e45,e35,e25,Tm.emb_mk]
    refine (deepest_c_Tm (.mk k n s l)).use ?_
    try simp only [go_sem,seval,tb138,m23,m34,m24,m45,m35,m25,e23,e34,e24,e45,e35,e25,Tm.emb_mk]
    refine .mk (.refl _) ?_ ⟨rfl,rfl⟩
    repeat first | exact .refl _ | refine .skip _ ?_
theorem sized_c_Tm (t:Tm):Pur Tryz.prog 99 [.agg t.emb,.val argsTmV] (vi (sizedE t.shape)):=by
  intro σ
  have hm:=measured_c_Tm t
  obtain ⟨k,n,s,l⟩:=t
  simp only [Tm.emb_mk] at hm ⊢
  refine acalls_of [] [] Tryz.func99 rfl (by kernel_rfl) ?_;rw [Tryz.ntmps99,Tryz.results99]
  try simp only [go_sem,seval,tb99]
  refine hm.use ?_
  unfold sizedE
  generalize meas (Tm.mk k n s l).shape=p
  try simp only [go_sem,seval,tb99]
  refine ⟨fun h=>?_,fun h=>⟨fun h2=>?_,fun h2=>?_⟩⟩
  · rw [if_pos h];exact fin_same
  · rw [if_neg h,if_pos h2];exact fin_same
  · rw [if_neg h,if_neg h2];exact fin_same
theorem tb266:(szOf Tryz.prog 3=some 1)∧(aggOf Tryz.prog 3=some false)∧(szOf Tryz.prog 269=some 1)∧(aggOf Tryz.prog 269=some false)∧(szOf Tryz.prog 150=some 2)∧(aggOf Tryz.prog 150=some true)∧(elOf Tryz.prog 126=some 150)∧(zeroOf Tryz.prog 150=some (.agg #[(.string ⟨#[]⟩),(.slice none 0 0)]))∧(szOf Tryz.prog 305=some 1)∧(aggOf Tryz.prog 305=some false)∧(Tryz.prog.underlying 126=some (.slice 150)):=by
  refine ⟨?_,?_,?_,?_,?_,?_,?_,?_,?_,?_,?_⟩<;>first | trivial | kernel_rfl
theorem tb209:(fOff Tryz.prog 150 1=some 1)∧(szOf Tryz.prog 126=some 1)∧(aggOf Tryz.prog 126=some false):=by
  refine ⟨?_,?_,?_⟩<;>first | trivial | kernel_rfl
theorem tb265:(zeroOf Tryz.prog 305=some .nilFunc)∧(szOf Tryz.prog 305=some 1)∧(aggOf Tryz.prog 305=some false)∧(szOf Tryz.prog 150=some 2)∧(aggOf Tryz.prog 150=some true):=by
  refine ⟨?_,?_,?_,?_,?_⟩<;>first | trivial | kernel_rfl
theorem tb251:(zeroOf Tryz.prog 3=some (.int .i64 0))∧(szOf Tryz.prog 150=some 2)∧(aggOf Tryz.prog 150=some true)∧(szOf Tryz.prog 269=some 1)∧(aggOf Tryz.prog 269=some false)∧(szOf Tryz.prog 3=some 1)∧(aggOf Tryz.prog 3=some false):=by
  refine ⟨?_,?_,?_,?_,?_,?_,?_⟩<;>first | trivial | kernel_rfl
theorem tb272:(szOf Tryz.prog 269=some 1)∧(aggOf Tryz.prog 269=some false)∧(szOf Tryz.prog 150=some 2)∧(aggOf Tryz.prog 150=some true)∧(elOf Tryz.prog 126=some 150)∧(zeroOf Tryz.prog 150=some (.agg #[(.string ⟨#[]⟩),(.slice none 0 0)]))∧(szOf Tryz.prog 253=some 1)∧(aggOf Tryz.prog 253=some false)∧(Tryz.prog.underlying 126=some (.slice 150)):=by
  refine ⟨?_,?_,?_,?_,?_,?_,?_,?_,?_⟩<;>first | trivial | kernel_rfl
theorem tb267:(zeroOf Tryz.prog 253=some .nilFunc)∧(szOf Tryz.prog 253=some 1)∧(aggOf Tryz.prog 253=some false)∧(szOf Tryz.prog 150=some 2)∧(aggOf Tryz.prog 150=some true):=by
  refine ⟨?_,?_,?_,?_,?_⟩<;>first | trivial | kernel_rfl
theorem tb208:(szOf Tryz.prog 150=some 2)∧(aggOf Tryz.prog 150=some true):=by
  refine ⟨?_,?_⟩<;>first | trivial | kernel_rfl
theorem argsTy_c (t:Ty):Pur Tryz.prog 209 [.agg t.emb] (.list .none 2 (Ty.embs t.kids)):=by
  intro σ
  obtain ⟨s,l⟩:=t
  simp only [Ty.emb_mk,Ty.kids]
  refine acalls_of [] [] Tryz.func209 rfl (by kernel_rfl) ?_;rw [Tryz.ntmps209,Tryz.results209]
  try simp only [go_sem,seval,tb209]
  exact fin_same
def walkV_Ty (bn bd ba bw:Nat):Value:=.func (.func 266) #[] #[.pointer (some ⟨bn,0,none⟩),.pointer (some ⟨bd,0,none⟩),.pointer (some ⟨ba,0,none⟩),.pointer (some ⟨bw,0,none⟩)]
theorem walk_c_Ty (bn bd ba bw:Nat)(h1:bn≠bd):∀ (t:Ty) (lv c d:Int) (σ:Store),1≤lv→lv≤101→0≤c→c≤4000→0≤d→d≤101 →
    σ.get bn=some (.cells [vi c])→σ.get bd=some (.cells [vi d])→σ.get ba=some (.cells [.val (.func (.func 209) #[] #[])])→σ.get bw=some (.cells [.val (walkV_Ty bn bd ba bw)]) →
    ACalls Tryz.prog 266 [.agg t.emb,vi lv,.val (.pointer (some ⟨bn,0,none⟩)),.val (.pointer (some ⟨bd,0,none⟩)),.val (.pointer (some ⟨ba,0,none⟩)),.val (.pointer (some ⟨bw,0,none⟩))] σ
      (fun r σ'=>σ'=S2 σ bn bd (wlk t.shape lv (c,d)).2∧r=if (wlk t.shape lv (c,d)).1 then .ret (.tup []) else .pan (termFault 2)):=by
  intro t
  induction t using Ty.ind with | h s l ih=>?_
  intro lv c d σ hl1 hl2 hc0 hc1 hd0 hd1 gn gd ga gw
  refine ACalls.ok (by kernel_rfl) (fun hok=>?_)
  have hlen:=(((hok _ List.mem_cons_self).agg (c:=.list .none 2 (Ty.embs l)) (by simp [Ty.emb_mk])).len)
  rw [Ty.embs_len] at hlen
  clear hok
  simp only [Ty.emb_mk]
  have n1:ba≠bn:=by intro e;rw [e,gn] at ga;simp at ga
  have n2:ba≠bd:=by intro e;rw [e,gd] at ga;simp at ga
  have n3:bw≠bn:=by intro e;rw [e,gn] at gw;simp [walkV_Ty] at gw
  have n4:bw≠bd:=by intro e;rw [e,gd] at gw;simp [walkV_Ty] at gw
  have hwc:IntKind.i64.wrap (c+1)=c+1:=wrap64 (by omega) (by omega)
  have hwl:IntKind.i64.wrap (lv+1)=lv+1:=wrap64 (by omega) (by omega)
  refine acalls_of [] [] Tryz.func266 rfl (by kernel_rfl) ?_;rw [Tryz.ntmps266,Tryz.results266]
  try simp only [go_sem,seval,tb266,gn,gd,ga,gw,h1,Ne.symm h1,n1,n2,n3,n4,hwc]
  refine must_use (fun hm=>?_) (fun hm=>?_)
  · have hm:c+1≤4000:=by simpa (disch:=omega) only [wrap64,decide_eq_true_eq] using hm
    try simp only [go_sem,seval,tb266,gn,gd,ga,gw,h1,Ne.symm h1,n1,n2,n3,n4,hwc]
    refine ⟨fun hlv=>?_,fun hlv=>?_⟩
    · refine (argsTy_c (.mk s l)).use ?_
      try simp only [go_sem,seval,tb266,gn,gd,ga,gw,h1,Ne.symm h1,n1,n2,n3,n4,hwc,hwl,Ty.kids]
      rw [S2_one (d:=d) gd h1,S2_b]
      have hsh:(wlk (Ty.mk s l).shape lv (c,d))=wlks (Ty.shapes l) (lv+1) (c+1,max d lv):=by
        simp only [Ty.shape,wlk,if_pos hm,if_pos hlv]
      rw [hsh]
      refine aloopT (mu:=[6]) (dr:=[]) [9,24,25,26,27,28,29,30,31,32,33] (fun x:Nat×(Int×Int)=>[(24,vi x.1)]) (fun x=>S2 σ bn bd x.2)
        (fun x=>x.1≤l.length∧wlks (Ty.shapes (l.take x.1)) (lv+1) (c+1,max d lv)=(true,x.2)) (fun x=>l.length-x.1) (0,(c+1,max d lv)) (by kernel_rfl) ⟨by simp,by simp [Ty.shapes,wlks]⟩ ?_ (.refl _) ?_
      · exact ⟨.refl _,trivial⟩
      · rintro ⟨i,st⟩ ⟨hi,hst⟩
        dsimp only at hi hst
        have hb:=wlks_bd (Ty.shapes (l.take i)) (lv+1) (c+1,max d lv) (by dsimp only;omega) (by dsimp only;omega) (by dsimp only;omega) (by dsimp only;omega) (by omega) (by rw [hst])
        rw [hst] at hb
        dsimp only at hb
        obtain ⟨c1,d1⟩:=st
        dsimp only at hb
        try simp only [go_sem,seval,tb266,Ty.embs_len,S2_ga gn h1,S2_gb gd h1,S2_g n1 n2,S2_g n3 n4,ga,gw,hwl]
        refine ⟨fun hi2=>⟨by omega,hi2,fun e he=>?_⟩,fun hi2=>?_⟩
        · rw [Int.toNat_natCast] at he
          obtain ⟨a,ha,rfl⟩:=Ty.embs_get he
          have iha:=ih a (List.mem_of_getElem? ha)
          obtain ⟨sa,la⟩:=a
          try simp only [go_sem,seval,tb266,Ty.emb_mk]
          intro b9 hb9
          have m1:=fresh_ne hb9 (S2_ga gn h1 (c1,d1))
          have m2:=fresh_ne hb9 (S2_gb gd h1 (c1,d1))
          have m4:=fresh_ne hb9 ((S2_g n3 n4 (c1,d1)).trans gw)
          try simp only [go_sem,seval,tb266,Ty.emb_mk,m1,m2,m4,S2_ga gn h1,S2_gb gd h1,S2_g n1 n2,S2_g n3 n4,ga,gw,hwl,walkV_Ty]
          have hsplit:=split_at ha
          refine ((iha (lv+1) c1 d1 (S2 σ bn bd (c1,d1)) (by omega) (by omega) hb.1 hb.2.1 hb.2.2.1 hb.2.2.2 (S2_ga gn h1 _) (S2_gb gd h1 _) ((S2_g n1 n2 _).trans ga) ((S2_g n3 n4 _).trans gw)).sub (.cons _ _)).mono ?_
          rintro r _ ⟨rfl,rfl⟩
          rw [S2_S2 h1]
          have hsn:∀ x:Ty,Ty.shapes (l.take i++[x])=Ty.shapes (l.take i)++[x.shape]:=fun x=>by simp [Ty.shapes_eq]
          generalize hw:wlk (Ty.mk sa la).shape (lv+1) (c1,d1)=p
          obtain ⟨b,q⟩:=p
          cases b with
          | true =>
            try simp only [go_sem,seval,tb266]
            have hw64:IntKind.i64.wrap ((i:Int)+1)=((i+1:Nat):Int):=wrap64 (by omega) (by omega)
            rw [hw64]
            refine .mk (i+1,q) ⟨by omega,?_⟩ (by dsimp only;omega) ⟨.refl _,trivial⟩ ?_ (.refl _)
            · rw [List.take_add_one,ha]
              simp only [Option.toList_some]
              rw [hsn,wlks_snoc _ _ _ _ _ hst,hw]
            · repeat refine Keeps.put rfl ?_
              exact Keeps.turn _ rfl
          | false =>
            try simp only [go_sem,seval,tb266]
            have he:wlks (Ty.shapes l) (lv+1) (c+1,max d lv)=(false,q):=by
              rw [hsplit,Ty.shapes_eq,List.map_append,List.map_cons,← Ty.shapes_eq]
              exact wlks_stop _ _ _ _ _ _ _ hst hw
            rw [he]
            exact .mk (.refl _) ⟨rfl,rfl⟩
        · have hil:l.take i=l:=List.take_of_length_le (by omega)
          rw [hil] at hst
          rw [hst]
          exact .mk (.refl _) (.refl _) ⟨rfl,rfl⟩
    · rw [S2_one (d:=d) gd h1,S2_b]
      refine .mk (.refl _) (.refl _) ?_
      simp only [Ty.shape,wlk,if_pos hm,if_neg hlv,if_true,and_self]
  · have hm:¬ c+1≤4000:=by simpa (disch:=omega) only [wrap64,decide_eq_false_iff_not] using hm
    try simp only [go_sem,seval,tb266,gn,gd,ga,gw,h1,Ne.symm h1,n1,n2,n3,n4,hwc]
    rw [S2_one (d:=d) gd h1]
    refine .mk (.refl _) ?_
    simp only [Ty.shape,wlk,if_neg hm,Bool.false_eq_true,if_false,and_self]
abbrev argsTyV:Value:=.func (.func 209) #[] #[]
theorem walk0_c_Ty (bn bd ba bt:Nat)(h1:bn≠bd)(t:Ty)(σ:Store)(gn:σ.get bn=some (.cells [vi 0]))(gd:σ.get bd=some (.cells [vi 0]))(ga:σ.get ba=some (.cells [.val argsTyV]))(gt:σ.get bt=some (.cells t.emb)) :
    ACalls Tryz.prog 265 [.val (.pointer (some ⟨bn,0,none⟩)),.val (.pointer (some ⟨bd,0,none⟩)),.val (.pointer (some ⟨ba,0,none⟩)),.val (.pointer (some ⟨bt,0,none⟩))] σ
      (fun r σ'=>σ'=S2 σ bn bd (wlk t.shape 1 (0,0)).2∧r=if (wlk t.shape 1 (0,0)).1 then .ret (.tup []) else .pan (termFault 2)):=by
  obtain ⟨s,l⟩:=t
  simp only [Ty.emb_mk] at gt
  refine acalls_of [] [] Tryz.func265 rfl (by kernel_rfl) ?_;rw [Tryz.ntmps265,Tryz.results265]
  try simp only [go_sem,seval,tb265]
  intro bw hbw
  have m1:=fresh_ne hbw gn
  have m2:=fresh_ne hbw gd
  have m3:=fresh_ne hbw ga
  have m4:=fresh_ne hbw gt
  try simp only [go_sem,seval,tb265,m1,m2,m3,m4,gt]
  refine (walk_c_Ty bn bd ba bw h1 (.mk s l) 1 0 0 _ (by omega) (by omega) (by omega) (by omega) (by omega) (by omega) (by simp only [Store.get,if_neg m1];exact gn) (by simp only [Store.get,if_neg m2];exact gd) (by simp only [Store.get,if_neg m3];exact ga) (by simp only [Store.get,if_true,walkV_Ty])).mono ?_
  rintro r _ ⟨rfl,rfl⟩
  rw [S2_cons m1 m2]
  cases (wlk (Ty.mk s l).shape 1 (0,0)).1 with
  | true =>
    try simp only [go_sem,seval,tb265]
    exact .mk (.refl _) (.cons _ _) ⟨rfl,rfl⟩
  | false =>
    try simp only [go_sem,seval,tb265]
    exact .mk (.cons _ _) ⟨rfl,rfl⟩
def deepV_Ty (ba bw:Nat):Value:=.func (.func 272) #[] #[.pointer (some ⟨ba,0,none⟩),.pointer (some ⟨bw,0,none⟩)]
theorem deep1_c_Ty (ba bw:Nat):∀ (t:Ty) (lv:Int) (σ:Store),1≤lv→lv≤101→σ.get ba=some (.cells [.val argsTyV])→σ.get bw=some (.cells [.val (deepV_Ty ba bw)]) →
    ACalls Tryz.prog 272 [.agg t.emb,vi lv,.val (.pointer (some ⟨ba,0,none⟩)),.val (.pointer (some ⟨bw,0,none⟩))] σ (kOnly (vi (deep t.shape lv)) σ):=by
  intro t
  induction t using Ty.ind with | h s l ih=>?_
  intro lv σ hl1 hl2 ga gw
  refine ACalls.ok (by kernel_rfl) (fun hok=>?_)
  have hlen:=(((hok _ List.mem_cons_self).agg (c:=.list .none 2 (Ty.embs l)) (by simp [Ty.emb_mk])).len)
  rw [Ty.embs_len] at hlen
  clear hok
  simp only [Ty.emb_mk]
  have hwl:IntKind.i64.wrap (lv+1)=lv+1:=wrap64 (by omega) (by omega)
  refine acalls_of [] [] Tryz.func272 rfl (by kernel_rfl) ?_;rw [Tryz.ntmps272,Tryz.results272]
  try simp only [go_sem,seval,tb272]
  refine ⟨fun hlv=>?_,fun hlv=>?_⟩
  · try simp only [go_sem,seval,tb272,ga,gw]
    refine (argsTy_c (.mk s l)).use ?_
    try simp only [go_sem,seval,tb272,Ty.kids]
    have hsh:deep (Ty.mk s l).shape lv=deeps (Ty.shapes l) (lv+1) lv:=by simp only [Ty.shape,deep,if_pos hlv]
    rw [hsh]
    refine aloopT (mu:=[]) (dr:=[]) [7,9,17,18,19,20,21,22,23,24,25,26,27,28] (fun i:Nat=>[(17,vi i),(7,vi (deeps (Ty.shapes (l.take i)) (lv+1) lv))]) (fun _=>σ)
        (fun i=>i≤l.length) (fun i=>l.length-i) 0 (by kernel_rfl) (by omega) ⟨.refl _,.refl _,trivial⟩ (.refl _) ?_
    intro i hi
    try simp only [go_sem,seval,tb272,Ty.embs_len,ga,gw,hwl]
    refine ⟨fun hi2=>⟨by omega,hi2,fun e he=>?_⟩,fun hi2=>?_⟩
    · rw [Int.toNat_natCast] at he
      obtain ⟨a,ha,rfl⟩:=Ty.embs_get he
      have iha:=ih a (List.mem_of_getElem? ha)
      obtain ⟨sb,lb⟩:=a
      try simp only [go_sem,seval,tb272,Ty.emb_mk]
      intro b9 hb9
      have m1:=fresh_ne hb9 ga
      have m2:=fresh_ne hb9 gw
      try simp only [go_sem,seval,tb272,Ty.emb_mk,m1,m2,ga,gw,hwl,deepV_Ty]
      refine ((iha (lv+1) σ (by omega) (by omega) ga gw).sub (.cons _ _)).mono ?_
      rintro r _ ⟨rfl,rfl⟩
      try simp only [go_sem,seval,tb272]
      have hw64:IntKind.i64.wrap ((i:Int)+1)=((i+1:Nat):Int):=wrap64 (by omega) (by omega)
      rw [hw64]
      have hsn:deeps (Ty.shapes (l.take (i+1))) (lv+1) lv=max (deeps (Ty.shapes (l.take i)) (lv+1) lv) (deep (Ty.mk sb lb).shape (lv+1)):=by
        rw [List.take_add_one,ha]
        simp only [Option.toList_some,Ty.shapes_eq,List.map_append,List.map_cons,List.map_nil]
        rw [deeps_snoc]
      refine .mk (i+1) (by omega) (by omega) ⟨.refl _,?_,trivial⟩ ?_ (.refl _)
      · rw [hsn];exact .refl _
      · repeat refine Keeps.put rfl ?_
        exact Keeps.turn _ rfl
    · have hil:l.take i=l:=List.take_of_length_le (by omega)
      rw [hil]
      exact fin_same
  · have hsh:deep (Ty.mk s l).shape lv=lv:=by simp only [Ty.shape,deep,if_neg hlv]
    rw [hsh]
    exact fin_same
theorem deepest_c_Ty (t:Ty):Pur Tryz.prog 267 [.agg t.emb,.val argsTyV] (vi (deep t.shape 1)):=by
  intro σ
  obtain ⟨s,l⟩:=t
  simp only [Ty.emb_mk]
  refine acalls_of [2,3] [] Tryz.func267 rfl (by kernel_rfl) ?_;rw [Tryz.ntmps267,Tryz.results267]
  try simp only [go_sem,seval,tb267]
  rintro b hb b1 ⟨m1,hb1⟩ b2 ⟨m2,m3,hb2⟩
  try simp only [go_sem,seval,tb267,m1,m2,m3,Ne.symm m1,Ne.symm m2,Ne.symm m3]
  refine (deep1_c_Ty b1 b2 (.mk s l) 1 _ (by omega) (by omega) (by simp only [Store.get,if_neg (Ne.symm m2),if_true]) (by simp only [Store.get,if_true,deepV_Ty])).mono ?_
  rintro r _ ⟨rfl,rfl⟩
  try simp only [go_sem,seval,tb267]
  exact fin_pur (.refl _) (((Sub.refl σ).skip _).skip _ |>.skip _)
theorem measured_c_Ty (t:Ty):Pur Tryz.prog 251 [.agg t.emb,.val argsTyV] (.tup [vi (meas t.shape).1,vi (meas t.shape).2]):=by
  intro σ
  obtain ⟨s,l⟩:=t
  simp only [Ty.emb_mk]
  refine acalls_of [2,3] [(3,2,1)] Tryz.func251 rfl (by kernel_rfl) ?_;rw [Tryz.ntmps251,Tryz.results251]
  try simp only [go_sem,seval,tb251]
  rintro b2 hb2 b3 ⟨m23,hb3⟩ b4 ⟨m34,m24,hb4⟩ b5 ⟨m45,m35,m25,hb5⟩
  refine guarded_c _ _ _ (fun b ⟨q5,q4,q3,q2,hb⟩=>?_)
  rw [inv_of]
  have h1:b4≠b5:=m45
  refine (walk0_c_Ty b4 b5 b3 b2 m45 (.mk s l) _ ?_ ?_ ?_ ?_).mono ?_
  · simp [Store.get,Ne.symm q4,m45,Ne.symm m45]
  · simp [Store.get,Ne.symm q5]
  · simp [Store.get,Ne.symm q3,Ne.symm m35,Ne.symm m34]
  · simp [Store.get,Ty.emb_mk,Ne.symm q2,Ne.symm m25,Ne.symm m24,Ne.symm m23]
  rintro r _ ⟨rfl,rfl⟩
  have hst:∀ st:Int×Int,S2 ((b,AObj.cells [vi 0])::(b5,.cells [vi 0])::(b4,.cells [vi 0])::(b3,.cells [.val argsTyV])::(b2,.cells (Ty.mk s l).emb)::σ) b4 b5 st=(b,.cells [vi 0])::(b5,.cells [vi st.2])::(b4,.cells [vi st.1])::(b3,.cells [.val argsTyV])::(b2,.cells (Ty.mk s l).emb)::σ:=by
    intro st
    simp [S2,Store.set,Ne.symm q4,Ne.symm q5,Ne.symm m45]
  refine ⟨_,hst _,?_⟩
  have hm:meas (Ty.mk s l).shape=if (wlk (Ty.mk s l).shape 1 (0,0)).1 then (wlk (Ty.mk s l).shape 1 (0,0)).2 else ((wlk (Ty.mk s l).shape 1 (0,0)).2.1,deep (Ty.mk s l).shape 1):=rfl
  rw [hm]
  generalize wlk (Ty.mk s l).shape 1 (0,0)=p
  obtain ⟨ok,c,d⟩:=p
  have e45:=Ne.symm m45
  have e34:=Ne.symm m34
  have e35:=Ne.symm m35
  have e24:=Ne.symm m24
  have e25:=Ne.symm m25
  have e23:=Ne.symm m23
  cases ok with
  | true =>
    try simp only [go_sem,seval,tb251,m23,m34,m24,m45,m35,m25,e23,e34,e24,e45,e35,e25]
    refine .mk (.refl _) ?_ ⟨rfl,rfl⟩
    repeat first | exact .refl _ | refine .skip _ ?_
  | false =>
    refine ⟨2,rfl,?_⟩
    try simp only [go_sem,seval,tb251,m23,m34,m24,m45,m35,m25,e23,e34,e24,e45,e35,e25,Ty.emb_mk]
    refine (deepest_c_Ty (.mk s l)).use ?_
    try simp only [go_sem,seval,tb251,m23,m34,m24,m45,m35,m25,e23,e34,e24,e45,e35,e25,Ty.emb_mk]
    refine .mk (.refl _) ?_ ⟨rfl,rfl⟩
    repeat first | exact .refl _ | refine .skip _ ?_
theorem sized_c_Ty (t:Ty):Pur Tryz.prog 208 [.agg t.emb,.val argsTyV] (vi (sizedE t.shape)):=by
  intro σ
  have hm:=measured_c_Ty t
  obtain ⟨s,l⟩:=t
  simp only [Ty.emb_mk] at hm ⊢
  refine acalls_of [] [] Tryz.func208 rfl (by kernel_rfl) ?_;rw [Tryz.ntmps208,Tryz.results208]
  try simp only [go_sem,seval,tb208]
  refine hm.use ?_
  unfold sizedE
  generalize meas (Ty.mk s l).shape=p
  try simp only [go_sem,seval,tb208]
  refine ⟨fun h=>?_,fun h=>⟨fun h2=>?_,fun h2=>?_⟩⟩
  · rw [if_pos h];exact fin_same
  · rw [if_neg h,if_pos h2];exact fin_same
  · rw [if_neg h,if_neg h2];exact fin_same
end Go.Vx
