/- Part Q25 of the proof of treeCaughtProved: the walk of the program on abstract values, and the plain law. -/
import Derived.Test.YtmedmnondjmleaaGreatQ24
set_option linter.unusedVariables false
set_option linter.unusedSimpArgs false
set_option maxRecDepth 100000
namespace Go.Vx
open Go.Proofs
theorem tb130:(fOff Tryz.prog 25 0=some 0)∧(szOf Tryz.prog 22=some 1)∧(aggOf Tryz.prog 22=some false)∧(elOf Tryz.prog 22=some 129)∧(szOf Tryz.prog 129=some 2)∧(fOff Tryz.prog 129 0=some 0)∧(szOf Tryz.prog 126=some 1)∧(aggOf Tryz.prog 126=some false)∧(fOff Tryz.prog 132 0=some 0)∧(fOff Tryz.prog 132 1=some 1)∧(fOff Tryz.prog 132 3=some 3)∧(szOf Tryz.prog 9=some 1)∧(aggOf Tryz.prog 9=some false)∧(fOff Tryz.prog 132 6=some 6)∧(szOf Tryz.prog 91=some 1)∧(aggOf Tryz.prog 91=some false)∧(fOff Tryz.prog 132 5=some 5)∧(szOf Tryz.prog 130=some 1)∧(aggOf Tryz.prog 130=some false)∧(Tryz.prog.underlying 226=some (.map 3 4))∧(Tryz.prog.underlying 3=some (.int .i64))∧(zeroOf Tryz.prog 4=some (.bool false))∧(szOf Tryz.prog 25=some 2)∧(aggOf Tryz.prog 25=some true)∧(zeroOf Tryz.prog 229=some (.agg #[(.slice none 0 0),(.slice none 0 0),(.int .i64 0),(.slice none 0 0),(.int .i64 0),(.int .i64 0)]))∧(plsOf Tryz.prog 229=some [(0,2),(2,1),(3,1),(4,1),(5,1)])∧(fOff Tryz.prog 132 2=some 2)∧(szOf Tryz.prog 23=some 1)∧(aggOf Tryz.prog 23=some false)∧(elOf Tryz.prog 23=some 3)∧(szOf Tryz.prog 3=some 1)∧(aggOf Tryz.prog 3=some false)∧(elOf Tryz.prog 91=some 4)∧(szOf Tryz.prog 4=some 1)∧(aggOf Tryz.prog 4=some false)∧(Tryz.prog.underlying 4=some .bool)∧(elOf Tryz.prog 130=some 152)∧(szOf Tryz.prog 152=some 9)∧(aggOf Tryz.prog 152=some true)∧(fOff Tryz.prog 229 4=some 5)∧(fOff Tryz.prog 132 4=some 4)∧(szOf Tryz.prog 33=some 1)∧(aggOf Tryz.prog 33=some false)∧(Tryz.prog.underlying 126=some (.slice 150))∧(Tryz.prog.underlying 91=some (.slice 4))∧(Tryz.prog.underlying 130=some (.slice 152))∧(Tryz.prog.underlying 23=some (.slice 3)):=by
  refine ⟨?_,?_,?_,?_,?_,?_,?_,?_,?_,?_,?_,?_,?_,?_,?_,?_,?_,?_,?_,?_,?_,?_,?_,?_,?_,?_,?_,?_,?_,?_,?_,?_,?_,?_,?_,?_,?_,?_,?_,?_,?_,?_,?_,?_,?_,?_,?_⟩<;>first | trivial | kernel_rfl
abbrev PSt:=List Int×Nat×Nat×Nat
def goalAt (f:Flat)(i env:Nat)(c:FClause)(t:Int)(A:List Int)(g s:Nat):Option Nat :=
  match c.goals[g]?,c.lasts[g]? with
  | some x,some b=>if b=decide (t=5) then goalS f i c.locals ((env+c.vars.length:Nat):Int) x A s else none
  | _,_=>none
def stepP (f:Flat)(i env:Nat)(c:FClause)(t:Int)(q:PSt):Option PSt :=
  if t=3 then some (addU q.1 ((env+q.2.1:Nat):Int),q.2.1+1,q.2.2.1,q.2.2.2)
  else if t=4∨t=5 then (goalAt f i env c t q.1 q.2.2.1 q.2.2.2).map fun s'=>(q.1,q.2.1,q.2.2.1+1,s')
  else some q
def pathS (f:Flat)(i env:Nat)(c:FClause):List Int→PSt→Option PSt
  | [],q=>some q
  | t::r,q=>(stepP f i env c t q).bind (pathS f i env c r)
theorem pathS_app (f:Flat)(i env:Nat)(c:FClause)(l m:List Int)(q:PSt):pathS f i env c (l++m) q=(pathS f i env c l q).bind (pathS f i env c m):=by
  induction l generalizing q with
  | nil=>rfl
  | cons t r ih =>
    simp only [List.cons_append,pathS]
    cases stepP f i env c t q with
    | none=>rfl
    | some p=>exact ih p
def range0 (n:Nat):List Int:=(List.range n).map fun i:Nat=>(i:Int)
theorem range0_len (n:Nat):(range0 n).length=n:=by simp [range0]
theorem range0_succ (n:Nat):range0 (n+1)=range0 n++[(n:Int)]:=by simp [range0,List.range_succ]
theorem range0_not (n:Nat):(n:Int) ∉ range0 n:=by
  simp only [range0,List.mem_map,List.mem_range,not_exists,not_and]
  intro x hx h
  omega
def clauseB (f:Flat)(i:Nat)(c:FClause):Bool :=
  match f.groups[i]? with
  | some G=>c.vars.all formedT&&c.locals.all formedT&&isName c.name&&decide (c.lasts.length=c.goals.length)&&decide (G.env.length+c.vars.length+c.locals.length≤2000) &&
    (match pathS f i G.env.length c c.path (range0 G.env.length,0,0,0) with
    | some (A,v,g,s)=>decide (v=c.vars.length)&&decide (g=c.goals.length)&&decide (s=c.locals.length)&&c.args.all (termB A)
    | none=>false)
  | none=>false
theorem clause_c (f:Flat)(i:Nat)(G:FGroup)(hG:f.groups[i]?=some G)(c:FClause):Pur Tryz.prog 130 [.agg f.emb,vi i,.agg c.emb] (vb (clauseB f i c)):=by
  intro σ
  refine ACalls.ok (by kernel_rfl) (fun hok=>?_)
  have hlf:=(((hok _ List.mem_cons_self).agg (c:=.list .none 2 (FGroup.embs f.groups)) (by simp [Flat.emb])).len)
  rw [FGroup.embs_len] at hlf
  have hlG:G.env.length≤137438953472:=by
    have h:=((hok _ List.mem_cons_self).agg (c:=.list .none 2 (FGroup.embs f.groups)) (by simp [Flat.emb])).mem (e:=G.emb) (by
      rw [FGroup.embs];exact List.mem_map_of_mem (List.mem_of_getElem? hG))
    have:=(h.agg (c:=.list .none 2 (Ty.embs G.env)) (by simp [FGroup.emb])).len
    rwa [Ty.embs_len] at this
  have hcc:=hok (.agg c.emb) (by simp)
  have hlv:=((hcc.agg (c:=.list .none 2 (Ty.embs c.vars)) (by simp [FClause.emb])).len)
  have hlo:=((hcc.agg (c:=.list .none 2 (Ty.embs c.locals)) (by simp [FClause.emb])).len)
  have hlp:=((hcc.agg (c:=.list .none 1 (ints c.path)) (by simp [FClause.emb])).len)
  have hlg:=((hcc.agg (c:=.list .none 9 (FGoal.embs c.goals)) (by simp [FClause.emb])).len)
  rw [Ty.embs_len] at hlv hlo
  rw [FGoal.embs_len] at hlg
  rw [List.length_map] at hlp
  clear hok hcc
  have hil:i<f.groups.length:=(List.getElem?_eq_some_iff.1 hG).1
  have h1:=cformed_c c.vars .none 2 (.inl rfl)
  have h2:=cformed_c c.locals .none 2 (.inl rfl)
  have h3:=lexName_c c.name
  unfold clauseB
  rw [hG]
  simp only [Flat.emb,FClause.emb]
  refine acalls_of [77] [(25,20,0)] Tryz.func130 rfl (by kernel_rfl) ?_;rw [Tryz.ntmps130,Tryz.results130]
  try simp only [go_sem,seval,tb130,FGroup.embs_len]
  refine ⟨by omega,by omega,fun cc hc=>?_⟩
  rw [Int.toNat_natCast] at hc
  obtain ⟨u,hu,rfl⟩:=FGroup.embs_get hc
  obtain rfl:G=u:=by rw [hG] at hu;injection hu
  try simp only [go_sem,seval,tb130,FGroup.emb,Ty.embs_len]
  refine h1.use ?_
  obtain ⟨b1,f1⟩:∃ b,c.vars.all formedT=b:=⟨_,rfl⟩
  obtain ⟨b2,f2⟩:∃ b,c.locals.all formedT=b:=⟨_,rfl⟩
  obtain ⟨b3,f3⟩:∃ b,isTokB 1 c.name=b:=⟨_,rfl⟩
  obtain ⟨b4,f4⟩:∃ b,decide ((c.lasts.length:Int)=c.goals.length)=b:=⟨_,rfl⟩
  have f4':decide (c.lasts.length=c.goals.length)=b4:=by rw [← f4];exact decide_eq_decide.2 (by omega)
  have hw1:IntKind.i64.wrap ((G.env.length:Int)+c.vars.length)=((G.env.length+c.vars.length:Nat):Int):=by rw [wrap64 (by omega) (by omega)];omega
  have hw2:IntKind.i64.wrap (((G.env.length+c.vars.length:Nat):Int)+c.locals.length)=((G.env.length+c.vars.length+c.locals.length:Nat):Int):=by rw [wrap64 (by omega) (by omega)];omega
  obtain ⟨b5,f5⟩:∃ b,decide (2000<((G.env.length+c.vars.length+c.locals.length:Nat):Int))=b:=⟨_,rfl⟩
  have f5':decide (G.env.length+c.vars.length+c.locals.length≤2000)=!b5:=by rw [← f5,← decide_not];exact decide_eq_decide.2 (by omega)
  simp only [isName]
  rw [f1,f2,f3,f4',f5']
  rw [f1] at *
  rw [f2] at h2
  rw [f3] at h3
  cases b1
  · try simp only [go_sem,seval,tb130,FGroup.embs_len,Ty.embs_len,Tm.embs_len,FGoal.embs_len,List.length_map,f4,f5,hw1,hw2]
    exact fin_b (by simp)
  try simp only [go_sem,seval,tb130,FGroup.embs_len,Ty.embs_len,Tm.embs_len,FGoal.embs_len,List.length_map,f4,f5,hw1,hw2]
  refine h2.use ?_
  cases b2
  · try simp only [go_sem,seval,tb130,FGroup.embs_len,Ty.embs_len,Tm.embs_len,FGoal.embs_len,List.length_map,f4,f5,hw1,hw2]
    exact fin_b (by simp)
  try simp only [go_sem,seval,tb130,FGroup.embs_len,Ty.embs_len,Tm.embs_len,FGoal.embs_len,List.length_map,f4,f5,hw1,hw2]
  refine h3.use ?_
  cases b3
  · try simp only [go_sem,seval,tb130,FGroup.embs_len,Ty.embs_len,Tm.embs_len,FGoal.embs_len,List.length_map,f4,f5,hw1,hw2]
    exact fin_b (by simp)
  try simp only [go_sem,seval,tb130,FGroup.embs_len,Ty.embs_len,Tm.embs_len,FGoal.embs_len,List.length_map,f4,f5,hw1,hw2]
  cases b4
  · try simp only [go_sem,seval,tb130,FGroup.embs_len,Ty.embs_len,Tm.embs_len,FGoal.embs_len,List.length_map,f4,f5,hw1,hw2]
    exact fin_b (by simp)
  try simp only [go_sem,seval,tb130,FGroup.embs_len,Ty.embs_len,Tm.embs_len,FGoal.embs_len,List.length_map,f4,f5,hw1,hw2]
  cases b5
  rotate_left
  · try simp only [go_sem,seval,tb130,FGroup.embs_len,Ty.embs_len,Tm.embs_len,FGoal.embs_len,List.length_map,f4,f5,hw1,hw2]
    exact fin_b (by simp)
  try simp only [go_sem,seval,tb130,FGroup.embs_len,Ty.embs_len,Tm.embs_len,FGoal.embs_len,List.length_map,f4,f5,hw1,hw2]
  intro r hr
  have hw:∀ j:Nat,j≤137438953472→IntKind.i64.wrap ((j:Int)+1)=((j+1:Nat):Int):=fun j hj=>wrap64 (by omega) (by omega)
  refine aloopT (mu:=[77]) (dr:=[(25,20,0)]) [9,61,62,63,64,65,66] (fun j:Nat=>[(61,vi j)]) (fun j=>(r,.map (embM keI (mapU (range0 j))) j)::σ) (fun j=>j≤G.env.length) (fun j=>G.env.length-j) 0 (by kernel_rfl) (by omega) ⟨.refl _,trivial⟩ (.refl _) ?_
  rintro j hj
  try simp only [go_sem,seval,tb130,FGroup.embs_len,Ty.embs_len,Tm.embs_len,FGoal.embs_len,List.length_map,f4,f5,hw1,hw2]
  refine ⟨fun q1=>?_,fun q1=>?_⟩
  · refine amapUpd_int (l:=mapU (range0 j)) (c:=j) tb216.1 tb216.2.1 (get_same _ _ _) ?_
    obtain ⟨u1,u2⟩:=mapU_upd (range0 j) j (range0_not j)
    rw [range0_len] at u1 u2
    rw [u1,u2,set_same,← range0_succ,range0_len]
    try simp only [go_sem,seval,tb130,FGroup.embs_len,Ty.embs_len,Tm.embs_len,FGoal.embs_len,List.length_map,f4,f5,hw1,hw2]
    rw [hw j (by omega)]
    exact .mk (j+1) (by omega) (by omega) ⟨.refl _,trivial⟩ (by repeat first | exact Keeps.turn _ rfl | refine Keeps.put rfl ?_) (.refl _)
  · have hje:j=G.env.length:=by omega
    subst hje
    try simp only [go_sem,seval,tb130,FGroup.embs_len,Ty.embs_len,Tm.embs_len,FGoal.embs_len,List.length_map,f4,f5,hw1,hw2]
    intro bk hbk
    have hkr:bk≠r:=Ne.symm hbk.1
    have hck:∀ s:Nat,AObj.cells [.list .none 2 (FGroup.embs f.groups),.list .none 1 (ints f.rules),vi (i:Int),.list .none 2 (Ty.embs c.locals),vi (((G.env.length+c.vars.length:Nat):Int)+s),vi s]=ckO f i c.locals ((G.env.length+c.vars.length:Nat):Int) s:=fun s=>rfl
    have hck0:=hck 0
    rw [show (((G.env.length+c.vars.length:Nat):Int)+((0:Nat):Int))=((G.env.length+c.vars.length:Nat):Int) by omega] at hck0
    generalize hbase:((G.env.length+c.vars.length:Nat):Int)=base at hck hck0 ⊢
    have hn5:G.env.length+c.vars.length+c.locals.length≤2000:=by have:=of_decide_eq_false f5;omega
    obtain ⟨q0,hq0⟩:∃ q0:PSt,q0=(range0 G.env.length,0,0,0):=⟨_,rfl⟩
    rw [← hq0]
    refine aloopT (mu:=[77]) (dr:=[(25,20,0)]) [6,11,12,14,81,82,83,84,85,86,87,88,89,90,91,92,93,94,95,96,97,98,99,100,101,102,103,104,105,106,107,108,109,110,111,112,113,114,115,116,117,118,119,120,121,122,123,124,125] (fun x:Nat×PSt=>[(81,vi x.1),(11,vi x.2.2.1),(12,vi x.2.2.2.1)]) (fun x=>(bk,ckO f i c.locals base x.2.2.2.2)::(r,.map (embM keI (mapU x.2.1)) x.2.1.length)::σ)
      (fun x=>x.1≤c.path.length∧x.2.2.1≤x.1∧x.2.2.2.1≤x.1∧x.2.2.2.2≤c.locals.length∧pathS f i G.env.length c (c.path.take x.1) q0=some x.2) (fun x=>c.path.length-x.1) (0,q0) (by kernel_rfl) (by rw [hq0];exact ⟨by simp,by simp,by simp,by simp,rfl⟩) (by rw [hq0];exact ⟨.refl _,.refl _,.refl _,trivial⟩) (by rw [hq0];simp only;rw [← hck0,range0_len];exact .refl _) ?_
    rintro ⟨j,A,v,g,s⟩ ⟨i1,i2,i3,i4,i5⟩
    simp only at i1 i2 i3 i4 i5
    try simp only [go_sem,seval,tb130,FGroup.embs_len,Ty.embs_len,Tm.embs_len,FGoal.embs_len,List.length_map,f4,f5,hw1,hw2]
    refine ⟨fun h1=>⟨by omega,h1,fun cc hc=>?_⟩,fun h1=>?_⟩
    · rw [Int.toNat_natCast] at hc
      obtain ⟨t,ht,rfl⟩:=mapGet hc
      have hnx:pathS f i G.env.length c (c.path.take (j+1)) q0=stepP f i G.env.length c t (A,v,g,s):=by
        rw [List.take_add_one,ht,Option.toList_some,pathS_app,i5]
        simp only [Option.bind_some,pathS]
        cases stepP f i G.env.length c t (A,v,g,s)<;>rfl
      have hno:stepP f i G.env.length c t (A,v,g,s)=none→pathS f i G.env.length c c.path q0=none:=fun h=>by
        have:=List.take_append_drop (j+1) c.path
        rw [← this,pathS_app,hnx,h];rfl
      have gk:Store.get ((bk,ckO f i c.locals base s)::(r,.map (embM keI (mapU A)) A.length)::σ) bk=some (ckO f i c.locals base s):=get_same _ _ _
      have gr:Store.get ((bk,ckO f i c.locals base s)::(r,.map (embM keI (mapU A)) A.length)::σ) r=some (.map (embM keI (mapU A)) A.length):=by rw [get_other hkr,get_same]
      by_cases t3:t=3
      · subst t3
        have hw3:IntKind.i64.wrap ((G.env.length:Int)+v)=((G.env.length+v:Nat):Int):=by rw [wrap64 (by omega) (by omega)];omega
        try simp only [go_sem,seval,tb130,hw3]
        refine amapUpd_int (l:=mapU A) (c:=A.length) tb216.1 tb216.2.1 gr ?_
        obtain ⟨u1,u2⟩:=mapU_add A ((G.env.length+v:Nat):Int)
        rw [u1,u2,set_other hkr,set_same]
        try simp only [go_sem,seval,tb130,FGroup.embs_len,Ty.embs_len,Tm.embs_len,FGoal.embs_len,List.length_map,f4,f5,hw1,hw2]
        rw [hw v (by omega),hw j (by omega)]
        exact .mk (j+1,addU A ((G.env.length+v:Nat):Int),v+1,g,s) ⟨by simp only;omega,by simp only;omega,by simp only;omega,i4,by simp only;rw [hnx];simp [stepP]⟩ (by simp only;omega) ⟨.refl _,.refl _,.refl _,trivial⟩ (by repeat first | exact Keeps.turn _ rfl | refine Keeps.put rfl ?_) (.refl _)
      · by_cases t4:t=4
        · subst t4
          try simp only [go_sem,seval,tb130,FGroup.embs_len,Ty.embs_len,Tm.embs_len,FGoal.embs_len,List.length_map,f4,f5,hw1,hw2]
          obtain ⟨bG,fG⟩:∃ b,decide ((c.goals.length:Int)≤g)=b:=⟨_,rfl⟩
          try simp only [go_sem,seval,tb130,fG,FGoal.embs_len]
          have hga:∀ t,c.goals.length≤g→goalAt f i G.env.length c t A g s=none:=fun t h=>by simp only [goalAt,List.getElem?_eq_none h]
          have hs4:∀ t,t=4∨t=5→stepP f i G.env.length c t (A,v,g,s)=(goalAt f i G.env.length c t A g s).map fun s'=>(A,v,g+1,s'):=fun t h=>by rcases h with rfl | rfl<;>rfl
          have f4n:=of_decide_eq_true f4'
          refine ⟨fun h2=>⟨by omega,by omega,fun cc hc=>?_⟩,fun h2=>?_⟩
          rotate_left
          · rw [hno (by rw [hs4 _ (by simp),hga _ (by omega)];rfl)]
            exact fin_pur (.refl _) (((Sub.refl σ).skip _).skip _)
          rw [Int.toNat_natCast] at hc
          obtain ⟨b,hb,rfl⟩:=mapGet hc
          have hx:c.goals[g]?=some (c.goals[g]'(by omega)):=List.getElem?_eq_getElem (by omega)
          generalize c.goals[g]'(by omega)=x at hx
          have hgo:∀ t,goalAt f i G.env.length c t A g s=if b=decide (t=5) then goalS f i c.locals base x A s else none:=fun t=>by simp only [goalAt,hx,hb,hbase]
          try simp only [go_sem,seval,tb130,FGroup.embs_len,Ty.embs_len,Tm.embs_len,FGoal.embs_len,List.length_map,f4,f5,hw1,hw2]
          refine ⟨fun h3=>⟨by omega,by omega,fun cc hc=>?_⟩,fun h3=>?_⟩
          rotate_left
          · rw [hno (by rw [hs4 _ (by simp),hgo,if_neg (by simpa using h3)];rfl)]
            exact fin_pur (.refl _) (((Sub.refl σ).skip _).skip _)
          rw [Int.toNat_natCast] at hc
          obtain ⟨x',hx',rfl⟩:=FGoal.embs_get hc
          obtain rfl:x=x':=by rw [hx] at hx';injection hx'
          have hg:=goal_c f i c.locals base bk (by omega) (by omega) (by omega) x A s r _ gk gr i4
          have hgx:∀ t,(t=4∨t=5)→b=decide (t=5)→stepP f i G.env.length c t (A,v,g,s)=(goalS f i c.locals base x A s).map fun s'=>(A,v,g+1,s'):=fun t h h'=>by rw [hs4 t h,hgo,if_pos h']
          generalize goalS f i c.locals base x A s=gx at hg hgx
          obtain ⟨k',s',a',⟨ts',tl'⟩,l',n',g',e'⟩:=x
          simp only [FGoal.emb_mk] at hg
          try simp only [go_sem,seval,tb130,FGoal.emb_mk]
          refine hg.mono ?_
          rintro w S' hw'
          cases gx with
          | none =>
            obtain ⟨hw1',s2,hw2'⟩:=hw'
            rw [hw1',hw2',set_same]
            try simp only [go_sem,seval,tb130]
            rw [hno (by rw [hgx _ (by simp) (by simpa using h3)];rfl)]
            exact fin_pur (.refl _) (((Sub.refl σ).skip _).skip _)
          | some s2 =>
            obtain ⟨hw1',hw2',hw3'⟩:=hw'
            rw [hw1',hw2',set_same]
            try simp only [go_sem,seval,tb130]
            rw [hw g (by omega),hw j (by omega)]
            exact .mk (j+1,A,v,g+1,s2) ⟨by simp only;omega,by simp only;omega,by simp only;omega,hw3',by simp only;rw [hnx,hgx _ (by simp) (by simpa using h3)];rfl⟩ (by simp only;omega) ⟨.refl _,.refl _,.refl _,trivial⟩ (by repeat first | exact Keeps.turn _ rfl | refine Keeps.put rfl ?_) (.refl _)
        · by_cases t5:t=5
          · subst t5
            try simp only [go_sem,seval,tb130,FGroup.embs_len,Ty.embs_len,Tm.embs_len,FGoal.embs_len,List.length_map,f4,f5,hw1,hw2]
            obtain ⟨bG,fG⟩:∃ b,decide ((c.goals.length:Int)≤g)=b:=⟨_,rfl⟩
            try simp only [go_sem,seval,tb130,fG,FGoal.embs_len]
            have hga:∀ t,c.goals.length≤g→goalAt f i G.env.length c t A g s=none:=fun t h=>by simp only [goalAt,List.getElem?_eq_none h]
            have hs4:∀ t,t=4∨t=5→stepP f i G.env.length c t (A,v,g,s)=(goalAt f i G.env.length c t A g s).map fun s'=>(A,v,g+1,s'):=fun t h=>by rcases h with rfl | rfl<;>rfl
            have f4n:=of_decide_eq_true f4'
            refine ⟨fun h2=>⟨by omega,by omega,fun cc hc=>?_⟩,fun h2=>?_⟩
            rotate_left
            · rw [hno (by rw [hs4 _ (by simp),hga _ (by omega)];rfl)]
              exact fin_pur (.refl _) (((Sub.refl σ).skip _).skip _)
            rw [Int.toNat_natCast] at hc
            obtain ⟨b,hb,rfl⟩:=mapGet hc
            have hx:c.goals[g]?=some (c.goals[g]'(by omega)):=List.getElem?_eq_getElem (by omega)
            generalize c.goals[g]'(by omega)=x at hx
            have hgo:∀ t,goalAt f i G.env.length c t A g s=if b=decide (t=5) then goalS f i c.locals base x A s else none:=fun t=>by simp only [goalAt,hx,hb,hbase]
            try simp only [go_sem,seval,tb130,FGroup.embs_len,Ty.embs_len,Tm.embs_len,FGoal.embs_len,List.length_map,f4,f5,hw1,hw2]
            refine ⟨fun h3=>⟨by omega,by omega,fun cc hc=>?_⟩,fun h3=>?_⟩
            rotate_left
            · rw [hno (by rw [hs4 _ (by simp),hgo,if_neg (by simpa using h3)];rfl)]
              exact fin_pur (.refl _) (((Sub.refl σ).skip _).skip _)
            rw [Int.toNat_natCast] at hc
            obtain ⟨x',hx',rfl⟩:=FGoal.embs_get hc
            obtain rfl:x=x':=by rw [hx] at hx';injection hx'
            have hg:=goal_c f i c.locals base bk (by omega) (by omega) (by omega) x A s r _ gk gr i4
            have hgx:∀ t,(t=4∨t=5)→b=decide (t=5)→stepP f i G.env.length c t (A,v,g,s)=(goalS f i c.locals base x A s).map fun s'=>(A,v,g+1,s'):=fun t h h'=>by rw [hs4 t h,hgo,if_pos h']
            generalize goalS f i c.locals base x A s=gx at hg hgx
            obtain ⟨k',s',a',⟨ts',tl'⟩,l',n',g',e'⟩:=x
            simp only [FGoal.emb_mk] at hg
            try simp only [go_sem,seval,tb130,FGoal.emb_mk]
            refine hg.mono ?_
            rintro w S' hw'
            cases gx with
            | none =>
              obtain ⟨hw1',s2,hw2'⟩:=hw'
              rw [hw1',hw2',set_same]
              try simp only [go_sem,seval,tb130]
              rw [hno (by rw [hgx _ (by simp) (by simpa using h3)];rfl)]
              exact fin_pur (.refl _) (((Sub.refl σ).skip _).skip _)
            | some s2 =>
              obtain ⟨hw1',hw2',hw3'⟩:=hw'
              rw [hw1',hw2',set_same]
              try simp only [go_sem,seval,tb130]
              rw [hw g (by omega),hw j (by omega)]
              exact .mk (j+1,A,v,g+1,s2) ⟨by simp only;omega,by simp only;omega,by simp only;omega,hw3',by simp only;rw [hnx,hgx _ (by simp) (by simpa using h3)];rfl⟩ (by simp only;omega) ⟨.refl _,.refl _,.refl _,trivial⟩ (by repeat first | exact Keeps.turn _ rfl | refine Keeps.put rfl ?_) (.refl _)
          · have k3:(t=3)=False:=eq_false t3
            have k4:(t=4)=False:=eq_false t4
            have k5:(t=5)=False:=eq_false t5
            try simp only [go_sem,seval,tb130,k3,k4,k5,decide_false]
            rw [hw j (by omega)]
            exact .mk (j+1,A,v,g,s) ⟨by simp only;omega,by simp only;omega,by simp only;omega,i4,by simp only;rw [hnx];simp [stepP, *]⟩ (by simp only;omega) ⟨.refl _,.refl _,.refl _,trivial⟩ (by repeat first | exact Keeps.turn _ rfl | refine Keeps.put rfl ?_) (.refl _)
    · have hje:c.path.take j=c.path:=List.take_of_length_le (by omega)
      rw [hje] at i5
      rw [i5]
      simp only
      try simp only [go_sem,seval,tb130,FGroup.embs_len,Ty.embs_len,Tm.embs_len,FGoal.embs_len,List.length_map,f4,f5,hw1,hw2]
      have gr:Store.get ((bk,ckO f i c.locals base s)::(r,.map (embM keI (mapU A)) A.length)::σ) r=some (.map (embM keI (mapU A)) A.length):=by rw [get_other hkr,get_same]
      refine ⟨fun e1=>⟨fun e2=>?_,fun e2=>?_⟩,fun e1=>?_⟩
      · try simp only [go_sem,seval,tb130,ckO,Ty.embs_len]
        have e1':v=c.vars.length:=by omega
        have e2':g=c.goals.length:=by omega
        refine ⟨fun e3=>?_,fun e3=>?_⟩
        · have e3':¬ s=c.locals.length:=by omega
          rw [decide_eq_false e3']
          try simp only [Bool.and_false,Bool.false_and,Bool.true_and]
          exact fin_pur (.refl _) (((Sub.refl σ).skip _).skip _)
        · have e3':s=c.locals.length:=by omega
          rw [decide_eq_true e1',decide_eq_true e2',decide_eq_true e3']
          try simp only [go_sem,seval,tb130,Tm.embs_len]
          refine (terms_c A r c.args .none 4 (.inl rfl) _ gr).only ?_
          try simp only [go_sem,seval,tb130]
          try simp only [Bool.and_false,Bool.false_and,Bool.true_and]
          exact fin_pur (.refl _) (((Sub.refl σ).skip _).skip _)
      · have e2':¬ g=c.goals.length:=by omega
        rw [decide_eq_false e2']
        try simp only [Bool.and_false,Bool.false_and,Bool.true_and]
        exact fin_pur (.refl _) (((Sub.refl σ).skip _).skip _)
      · have e1':¬ v=c.vars.length:=by omega
        rw [decide_eq_false e1']
        try simp only [Bool.and_false,Bool.false_and,Bool.true_and]
        exact fin_pur (.refl _) (((Sub.refl σ).skip _).skip _)
end Go.Vx
