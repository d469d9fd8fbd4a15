/- Part Q25 of the proof of treeLooksProved: the walk of the program on abstract values, and the plain law. -/
import Derived.Test.YtmedmnondjmleaaGreatQ24
set_option linter.unusedVariables false
set_option linter.unusedSimpArgs false
set_option maxRecDepth 100000
namespace Go.Vx
open Go.Proofs
theorem YB:(Zz Tryz.prog 25 0=some 0)∧(Zh Tryz.prog 22=some 1)∧(Ze Tryz.prog 22=some false)∧(ZA Tryz.prog 22=some 129)∧(Zh Tryz.prog 129=some 2)∧(Zz Tryz.prog 129 0=some 0)∧(Zh Tryz.prog 126=some 1)∧(Ze Tryz.prog 126=some false)∧(Zz Tryz.prog 132 0=some 0)∧(Zz Tryz.prog 132 1=some 1)∧(Zz Tryz.prog 132 3=some 3)∧(Zh Tryz.prog 9=some 1)∧(Ze Tryz.prog 9=some false)∧(Zz Tryz.prog 132 6=some 6)∧(Zh Tryz.prog 91=some 1)∧(Ze Tryz.prog 91=some false)∧(Zz Tryz.prog 132 5=some 5)∧(Zh Tryz.prog 130=some 1)∧(Ze Tryz.prog 130=some false)∧(Tryz.prog.underlying 226=some (.map 3 4))∧(Tryz.prog.underlying 3=some (.int .i64))∧(Zl Tryz.prog 4=some (.bool false))∧(Zh Tryz.prog 25=some 2)∧(Ze Tryz.prog 25=some true)∧(Zl Tryz.prog 229=some (.agg #[(.slice none 0 0),(.slice none 0 0),(.int .i64 0),(.slice none 0 0),(.int .i64 0),(.int .i64 0)]))∧(Yx Tryz.prog 229=some [(0,2),(2,1),(3,1),(4,1),(5,1)])∧(Zz Tryz.prog 132 2=some 2)∧(Zh Tryz.prog 23=some 1)∧(Ze Tryz.prog 23=some false)∧(ZA Tryz.prog 23=some 3)∧(Zh Tryz.prog 3=some 1)∧(Ze Tryz.prog 3=some false)∧(ZA Tryz.prog 91=some 4)∧(Zh Tryz.prog 4=some 1)∧(Ze Tryz.prog 4=some false)∧(Tryz.prog.underlying 4=some .bool)∧(ZA Tryz.prog 130=some 152)∧(Zh Tryz.prog 152=some 9)∧(Ze Tryz.prog 152=some true)∧(Zz Tryz.prog 229 4=some 5)∧(Zz Tryz.prog 132 4=some 4)∧(Zh Tryz.prog 33=some 1)∧(Ze Tryz.prog 33=some false)∧(Tryz.prog.underlying 126=some (.slice 150))∧(Tryz.prog.underlying 91=some (.slice 4))∧(Tryz.prog.underlying 130=some (.slice 152))∧(Tryz.prog.underlying 23=some (.slice 3)):=by
 refine ⟨?_,?_,?_,?_,?_,?_,?_,?_,?_,?_,?_,?_,?_,?_,?_,?_,?_,?_,?_,?_,?_,?_,?_,?_,?_,?_,?_,?_,?_,?_,?_,?_,?_,?_,?_,?_,?_,?_,?_,?_,?_,?_,?_,?_,?_,?_,?_⟩<;>first | trivial | kernel_rfl
abbrev PSt:=List Int×Nat×Nat×Nat
def WX (f:Flat)(i env:Nat)(c:FClause)(t:Int)(A:List Int)(g s:Nat):Option Nat :=
 match c.goals[g]?,c.lasts[g]? with
 | some x,some b=>if b=decide (t=5) then Yr f i c.locals ((env+c.vars.length:Nat):Int) x A s else none
 | _,_=>none
def Uo (f:Flat)(i env:Nat)(c:FClause)(t:Int)(q:PSt):Option PSt :=
 if t=3 then some (W8 q.1 ((env+q.2.1:Nat):Int),q.2.1+1,q.2.2.1,q.2.2.2)
 else if t=4∨t=5 then (WX f i env c t q.1 q.2.2.1 q.2.2.2).map fun s'=>(q.1,q.2.1,q.2.2.1+1,s')
 else some q
def Tb (f:Flat)(i env:Nat)(c:FClause):List Int→PSt→Option PSt
 | [],q=>some q
 | t::r,q=>(Uo f i env c t q).bind (Tb f i env c r)
theorem P4 (f:Flat)(i env:Nat)(c:FClause)(l m:List Int)(q:PSt):Tb f i env c (l++m) q=(Tb f i env c l q).bind (Tb f i env c m):=by
 induction l generalizing q with
 | nil=>rfl
 | cons t r ih =>
   simp only [List.cons_append,Tb]
   cases Uo f i env c t q with
   | none=>rfl
   | some p=>exact ih p
def Wz (n:Nat):List Int:=(List.range n).map fun i:Nat=>(i:Int)
theorem Tn (n:Nat):(Wz n).length=n:=by simp [Wz]
theorem Ma (n:Nat):Wz (n+1)=Wz n++[(n:Int)]:=by simp [Wz,List.range_succ]
theorem LR (n:Nat):(n:Int) ∉ Wz n:=by
 simp only [Wz,List.mem_map,List.mem_range,not_exists,not_and]
 intro x hx h
 omega
def Ws (f:Flat)(i:Nat)(c:FClause):Bool :=
 match f.groups[i]? with
 | some G=>c.vars.all Ya&&c.locals.all Ya&&ZN c.name&&decide (c.lasts.length=c.goals.length)&&decide (G.env.length+c.vars.length+c.locals.length≤2000) &&
   (match Tb f i G.env.length c c.path (Wz G.env.length,0,0,0) with
   | some (A,v,g,s)=>decide (v=c.vars.length)&&decide (g=c.goals.length)&&decide (s=c.locals.length)&&c.args.all (XT A)
   | none=>false)
 | none=>false
theorem EI (f:Flat)(i:Nat)(G:FGroup)(hG:f.groups[i]?=some G)(c:FClause):Pur Tryz.prog 130 [.agg f.emb,vi i,.agg c.emb] (vb (Ws f i c)):=by
 intro σ
 refine Zj.ok (by kernel_rfl) (fun hok=>?_)
 have hlf:=(((hok _ List.mem_cons_self).agg (c:=.list .none 2 (cO f.groups)) (by simp [Flat.emb])).len)
 rw [ck] at hlf
 have hlG:G.env.length≤137438953472:=by
  have h:=((hok _ List.mem_cons_self).agg (c:=.list .none 2 (cO f.groups)) (by simp [Flat.emb])).mem (e:=G.emb) (by
   rw [cO];exact List.mem_map_of_mem (List.mem_of_getElem? hG))
  have:=(h.agg (c:=.list .none 2 (cJ G.env)) (by simp [FGroup.emb])).len
  rwa [cj] at this
 have hcc:=hok (.agg c.emb) (by simp)
 have hlv:=((hcc.agg (c:=.list .none 2 (cJ c.vars)) (by simp [FClause.emb])).len)
 have hlo:=((hcc.agg (c:=.list .none 2 (cJ c.locals)) (by simp [FClause.emb])).len)
 have hlp:=((hcc.agg (c:=.list .none 1 (Yz c.path)) (by simp [FClause.emb])).len)
 have hlg:=((hcc.agg (c:=.list .none 9 (cN c.goals)) (by simp [FClause.emb])).len)
 rw [cj] at hlv hlo
 rw [cg] at hlg
 rw [List.length_map] at hlp
 clear hok hcc
 have hil:i<f.groups.length:=(List.getElem?_eq_some_iff.1 hG).1
 have h1:=VG c.vars .none 2 (.inl rfl)
 have h2:=VG c.locals .none 2 (.inl rfl)
 have h3:=Wl c.name
 unfold Ws
 rw [hG]
 simp only [Flat.emb,FClause.emb]
 refine Zc [77] [(25,20,0)] Tryz.func130 rfl (by kernel_rfl) ?_;rw [Tryz.ntmps130,Tryz.results130]
 try simp only [go_sem,seval,YB,ck]
 refine ⟨by omega,by omega,fun cc hc=>?_⟩
 rw [Int.toNat_natCast] at hc
 obtain ⟨u,hu,rfl⟩:=cT hc
 obtain rfl:G=u:=by rw [hG] at hu;injection hu
 try simp only [go_sem,seval,YB,FGroup.emb,cj]
 refine h1.use ?_
 obtain ⟨b1,f1⟩:∃ b,c.vars.all Ya=b:=⟨_,rfl⟩
 obtain ⟨b2,f2⟩:∃ b,c.locals.all Ya=b:=⟨_,rfl⟩
 obtain ⟨b3,f3⟩:∃ b,YP 1 c.name=b:=⟨_,rfl⟩
 obtain ⟨b4,f4⟩:∃ b,decide ((c.lasts.length:Int)=c.goals.length)=b:=⟨_,rfl⟩
 have f4':decide (c.lasts.length=c.goals.length)=b4:=by rw [← f4];exact decide_eq_decide.2 (by omega)
 have hw1:IntKind.i64.wrap ((G.env.length:Int)+c.vars.length)=((G.env.length+c.vars.length:Nat):Int):=by rw [Zp (by omega) (by omega)];omega
 have hw2:IntKind.i64.wrap (((G.env.length+c.vars.length:Nat):Int)+c.locals.length)=((G.env.length+c.vars.length+c.locals.length:Nat):Int):=by rw [Zp (by omega) (by omega)];omega
 obtain ⟨b5,f5⟩:∃ b,decide (2000<((G.env.length+c.vars.length+c.locals.length:Nat):Int))=b:=⟨_,rfl⟩
 have f5':decide (G.env.length+c.vars.length+c.locals.length≤2000)=!b5:=by rw [← f5,← decide_not];exact decide_eq_decide.2 (by omega)
 simp only [ZN]
 rw [f1,f2,f3,f4',f5']
 rw [f1] at *
 rw [f2] at h2
 rw [f3] at h3
 cases b1
 ·refine eu ?_
  exact ZC (by simp)
 refine eu ?_
 refine h2.use ?_
 cases b2
 ·refine eu ?_
  exact ZC (by simp)
 refine eu ?_
 refine h3.use ?_
 cases b3
 ·refine eu ?_
  exact ZC (by simp)
 refine eu ?_
 cases b4
 ·refine eu ?_
  exact ZC (by simp)
 refine eu ?_
 cases b5
 rotate_left
 ·refine eu ?_
  exact ZC (by simp)
 refine eu ?_
 intro r hr
 have hw:∀ j:Nat,j≤137438953472→IntKind.i64.wrap ((j:Int)+1)=((j+1:Nat):Int):=fun j hj=>Zp (by omega) (by omega)
 refine Zv (mu:=[77]) (dr:=[(25,20,0)]) [9,61,62,63,64,65,66] (fun j:Nat=>[(61,vi j)]) (fun j=>(r,.map (ZM keI (Yf (Wz j))) j)::σ) (fun j=>j≤G.env.length) (fun j=>G.env.length-j) 0 (by kernel_rfl) (by omega) ⟨.refl _,trivial⟩ (.refl _) ?_
 rintro j hj
 refine eu ?_
 refine ⟨fun q1=>?_,fun q1=>?_⟩
 ·refine Y3 (l:=Yf (Wz j)) (c:=j) We.1 We.2.1 (Zi _ _ _) ?_
  obtain ⟨u1,u2⟩:=TV (Wz j) j (LR j)
  rw [Tn] at u1 u2
  rw [u1,u2,Z6,← Ma,Tn]
  refine eu ?_
  rw [hw j (by omega)]
  exact .mk (j+1) (by omega) (by omega) ⟨.refl _,trivial⟩ (by repeat first | exact Zf.turn _ rfl | refine Zf.put rfl ?_) (.refl _)
 ·have hje:j=G.env.length:=by omega
  subst hje
  refine eu ?_
  intro bk hbk
  have hkr:bk≠r:=Ne.symm hbk.1
  have hck:∀ s:Nat,AObj.cells [.list .none 2 (cO f.groups),.list .none 1 (Yz f.rules),vi (i:Int),.list .none 2 (cJ c.locals),vi (((G.env.length+c.vars.length:Nat):Int)+s),vi s]=ckO f i c.locals ((G.env.length+c.vars.length:Nat):Int) s:=fun s=>rfl
  have hck0:=hck 0
  rw [show (((G.env.length+c.vars.length:Nat):Int)+((0:Nat):Int))=((G.env.length+c.vars.length:Nat):Int) by omega] at hck0
  generalize hbase:((G.env.length+c.vars.length:Nat):Int)=base at hck hck0 ⊢
  have hn5:G.env.length+c.vars.length+c.locals.length≤2000:=by have:=of_decide_eq_false f5;omega
  obtain ⟨q0,hq0⟩:∃ q0:PSt,q0=(Wz G.env.length,0,0,0):=⟨_,rfl⟩
  rw [← hq0]
  refine Zv (mu:=[77]) (dr:=[(25,20,0)]) [6,11,12,14,81,82,83,84,85,86,87,88,89,90,91,92,93,94,95,96,97,98,99,100,101,102,103,104,105,106,107,108,109,110,111,112,113,114,115,116,117,118,119,120,121,122,123,124,125] (fun x:Nat×PSt=>[(81,vi x.1),(11,vi x.2.2.1),(12,vi x.2.2.2.1)]) (fun x=>(bk,ckO f i c.locals base x.2.2.2.2)::(r,.map (ZM keI (Yf x.2.1)) x.2.1.length)::σ)
   (fun x=>x.1≤c.path.length∧x.2.2.1≤x.1∧x.2.2.2.1≤x.1∧x.2.2.2.2≤c.locals.length∧Tb f i G.env.length c (c.path.take x.1) q0=some x.2) (fun x=>c.path.length-x.1) (0,q0) (by kernel_rfl) (by rw [hq0];exact ⟨by simp,by simp,by simp,by simp,rfl⟩) (by rw [hq0];exact ⟨.refl _,.refl _,.refl _,trivial⟩) (by rw [hq0];simp only;rw [← hck0,Tn];exact .refl _) ?_
  rintro ⟨j,A,v,g,s⟩ ⟨i1,i2,i3,i4,i5⟩
  simp only at i1 i2 i3 i4 i5
  refine eu ?_
  refine ⟨fun h1=>⟨by omega,h1,fun cc hc=>?_⟩,fun h1=>?_⟩
  ·rw [Int.toNat_natCast] at hc
   obtain ⟨t,ht,rfl⟩:=Yo hc
   have hnx:Tb f i G.env.length c (c.path.take (j+1)) q0=Uo f i G.env.length c t (A,v,g,s):=by
    rw [List.take_add_one,ht,Option.toList_some,P4,i5]
    simp only [Option.bind_some,Tb]
    cases Uo f i G.env.length c t (A,v,g,s)<;>rfl
   have hno:Uo f i G.env.length c t (A,v,g,s)=none→Tb f i G.env.length c c.path q0=none:=fun h=>by
    have:=List.take_append_drop (j+1) c.path
    rw [← this,P4,hnx,h];rfl
   have gk:Store.get ((bk,ckO f i c.locals base s)::(r,.map (ZM keI (Yf A)) A.length)::σ) bk=some (ckO f i c.locals base s):=Zi _ _ _
   have gr:Store.get ((bk,ckO f i c.locals base s)::(r,.map (ZM keI (Yf A)) A.length)::σ) r=some (.map (ZM keI (Yf A)) A.length):=by rw [Za hkr,Zi]
   by_cases t3:t=3
   ·subst t3
    have hw3:IntKind.i64.wrap ((G.env.length:Int)+v)=((G.env.length+v:Nat):Int):=by rw [Zp (by omega) (by omega)];omega
    try simp only [go_sem,seval,YB,hw3]
    refine Y3 (l:=Yf A) (c:=A.length) We.1 We.2.1 gr ?_
    obtain ⟨u1,u2⟩:=Mh A ((G.env.length+v:Nat):Int)
    rw [u1,u2,Zk hkr,Z6]
    refine eu ?_
    rw [hw v (by omega),hw j (by omega)]
    exact .mk (j+1,W8 A ((G.env.length+v:Nat):Int),v+1,g,s) ⟨by simp only;omega,by simp only;omega,by simp only;omega,i4,by simp only;rw [hnx];simp [Uo]⟩ (by simp only;omega) ⟨.refl _,.refl _,.refl _,trivial⟩ (by repeat first | exact Zf.turn _ rfl | refine Zf.put rfl ?_) (.refl _)
   ·by_cases t4:t=4
    ·subst t4
     refine eu ?_
     obtain ⟨bG,fG⟩:∃ b,decide ((c.goals.length:Int)≤g)=b:=⟨_,rfl⟩
     try simp only [go_sem,seval,YB,fG,cg]
     have hga:∀ t,c.goals.length≤g→WX f i G.env.length c t A g s=none:=fun t h=>by simp only [WX,List.getElem?_eq_none h]
     have hs4:∀ t,t=4∨t=5→Uo f i G.env.length c t (A,v,g,s)=(WX f i G.env.length c t A g s).map fun s'=>(A,v,g+1,s'):=fun t h=>by rcases h with rfl | rfl<;>rfl
     have f4n:=of_decide_eq_true f4'
     refine ⟨fun h2=>⟨by omega,by omega,fun cc hc=>?_⟩,fun h2=>?_⟩
     rotate_left
     ·rw [hno (by rw [hs4 _ (by simp),hga _ (by omega)];rfl)]
      exact eI
     rw [Int.toNat_natCast] at hc
     obtain ⟨b,hb,rfl⟩:=Yo hc
     have hx:c.goals[g]?=some (c.goals[g]'(by omega)):=List.getElem?_eq_getElem (by omega)
     generalize c.goals[g]'(by omega)=x at hx
     have hgo:∀ t,WX f i G.env.length c t A g s=if b=decide (t=5) then Yr f i c.locals base x A s else none:=fun t=>by simp only [WX,hx,hb,hbase]
     refine eu ?_
     refine ⟨fun h3=>⟨by omega,by omega,fun cc hc=>?_⟩,fun h3=>?_⟩
     rotate_left
     ·rw [hno (by rw [hs4 _ (by simp),hgo,if_neg (by simpa using h3)];rfl)]
      exact eI
     rw [Int.toNat_natCast] at hc
     obtain ⟨x',hx',rfl⟩:=cQ hc
     obtain rfl:x=x':=by rw [hx] at hx';injection hx'
     have hg:=F4 f i c.locals base bk (by omega) (by omega) (by omega) x A s r _ gk gr i4
     have hgx:∀ t,(t=4∨t=5)→b=decide (t=5)→Uo f i G.env.length c t (A,v,g,s)=(Yr f i c.locals base x A s).map fun s'=>(A,v,g+1,s'):=fun t h h'=>by rw [hs4 t h,hgo,if_pos h']
     generalize Yr f i c.locals base x A s=gx at hg hgx
     obtain ⟨k',s',a',⟨ts',tl'⟩,l',n',g',e'⟩:=x
     simp only [cp] at hg
     try simp only [go_sem,seval,YB,cp]
     refine hg.mono ?_
     rintro w S' hw'
     cases gx with
     | none =>
       obtain ⟨hw1',s2,hw2'⟩:=hw'
       rw [hw1',hw2',Z6]
       try simp only [go_sem,seval,YB]
       rw [hno (by rw [hgx _ (by simp) (by simpa using h3)];rfl)]
       exact eI
     | some s2 =>
       obtain ⟨hw1',hw2',hw3'⟩:=hw'
       rw [hw1',hw2',Z6]
       try simp only [go_sem,seval,YB]
       rw [hw g (by omega),hw j (by omega)]
       exact .mk (j+1,A,v,g+1,s2) ⟨by simp only;omega,by simp only;omega,by simp only;omega,hw3',by simp only;rw [hnx,hgx _ (by simp) (by simpa using h3)];rfl⟩ (by simp only;omega) ⟨.refl _,.refl _,.refl _,trivial⟩ (by repeat first | exact Zf.turn _ rfl | refine Zf.put rfl ?_) (.refl _)
    ·by_cases t5:t=5
     ·subst t5
      refine eu ?_
      obtain ⟨bG,fG⟩:∃ b,decide ((c.goals.length:Int)≤g)=b:=⟨_,rfl⟩
      try simp only [go_sem,seval,YB,fG,cg]
      have hga:∀ t,c.goals.length≤g→WX f i G.env.length c t A g s=none:=fun t h=>by simp only [WX,List.getElem?_eq_none h]
      have hs4:∀ t,t=4∨t=5→Uo f i G.env.length c t (A,v,g,s)=(WX f i G.env.length c t A g s).map fun s'=>(A,v,g+1,s'):=fun t h=>by rcases h with rfl | rfl<;>rfl
      have f4n:=of_decide_eq_true f4'
      refine ⟨fun h2=>⟨by omega,by omega,fun cc hc=>?_⟩,fun h2=>?_⟩
      rotate_left
      ·rw [hno (by rw [hs4 _ (by simp),hga _ (by omega)];rfl)]
       exact eI
      rw [Int.toNat_natCast] at hc
      obtain ⟨b,hb,rfl⟩:=Yo hc
      have hx:c.goals[g]?=some (c.goals[g]'(by omega)):=List.getElem?_eq_getElem (by omega)
      generalize c.goals[g]'(by omega)=x at hx
      have hgo:∀ t,WX f i G.env.length c t A g s=if b=decide (t=5) then Yr f i c.locals base x A s else none:=fun t=>by simp only [WX,hx,hb,hbase]
      refine eu ?_
      refine ⟨fun h3=>⟨by omega,by omega,fun cc hc=>?_⟩,fun h3=>?_⟩
      rotate_left
      ·rw [hno (by rw [hs4 _ (by simp),hgo,if_neg (by simpa using h3)];rfl)]
       exact eI
      rw [Int.toNat_natCast] at hc
      obtain ⟨x',hx',rfl⟩:=cQ hc
      obtain rfl:x=x':=by rw [hx] at hx';injection hx'
      have hg:=F4 f i c.locals base bk (by omega) (by omega) (by omega) x A s r _ gk gr i4
      have hgx:∀ t,(t=4∨t=5)→b=decide (t=5)→Uo f i G.env.length c t (A,v,g,s)=(Yr f i c.locals base x A s).map fun s'=>(A,v,g+1,s'):=fun t h h'=>by rw [hs4 t h,hgo,if_pos h']
      generalize Yr f i c.locals base x A s=gx at hg hgx
      obtain ⟨k',s',a',⟨ts',tl'⟩,l',n',g',e'⟩:=x
      simp only [cp] at hg
      try simp only [go_sem,seval,YB,cp]
      refine hg.mono ?_
      rintro w S' hw'
      cases gx with
      | none =>
        obtain ⟨hw1',s2,hw2'⟩:=hw'
        rw [hw1',hw2',Z6]
        try simp only [go_sem,seval,YB]
        rw [hno (by rw [hgx _ (by simp) (by simpa using h3)];rfl)]
        exact eI
      | some s2 =>
        obtain ⟨hw1',hw2',hw3'⟩:=hw'
        rw [hw1',hw2',Z6]
        try simp only [go_sem,seval,YB]
        rw [hw g (by omega),hw j (by omega)]
        exact .mk (j+1,A,v,g+1,s2) ⟨by simp only;omega,by simp only;omega,by simp only;omega,hw3',by simp only;rw [hnx,hgx _ (by simp) (by simpa using h3)];rfl⟩ (by simp only;omega) ⟨.refl _,.refl _,.refl _,trivial⟩ (by repeat first | exact Zf.turn _ rfl | refine Zf.put rfl ?_) (.refl _)
     ·have k3:(t=3)=False:=eq_false t3
      have k4:(t=4)=False:=eq_false t4
      have k5:(t=5)=False:=eq_false t5
      try simp only [go_sem,seval,YB,k3,k4,k5,decide_false]
      rw [hw j (by omega)]
      exact .mk (j+1,A,v,g,s) ⟨by simp only;omega,by simp only;omega,by simp only;omega,i4,by simp only;rw [hnx];simp [Uo, *]⟩ (by simp only;omega) ⟨.refl _,.refl _,.refl _,trivial⟩ (by repeat first | exact Zf.turn _ rfl | refine Zf.put rfl ?_) (.refl _)
  ·have hje:c.path.take j=c.path:=List.take_of_length_le (by omega)
   rw [hje] at i5
   rw [i5]
   simp only
   refine eu ?_
   have gr:Store.get ((bk,ckO f i c.locals base s)::(r,.map (ZM keI (Yf A)) A.length)::σ) r=some (.map (ZM keI (Yf A)) A.length):=by rw [Za hkr,Zi]
   refine ⟨fun e1=>⟨fun e2=>?_,fun e2=>?_⟩,fun e1=>?_⟩
   ·try simp only [go_sem,seval,YB,ckO,cj]
    have e1':v=c.vars.length:=by omega
    have e2':g=c.goals.length:=by omega
    refine ⟨fun e3=>?_,fun e3=>?_⟩
    ·have e3':¬ s=c.locals.length:=by omega
     rw [decide_eq_false e3']
     refine io ?_
     exact eI
    ·have e3':s=c.locals.length:=by omega
     rw [decide_eq_true e1',decide_eq_true e2',decide_eq_true e3']
     try simp only [go_sem,seval,YB,ci]
     refine (VN A r c.args .none 4 (.inl rfl) _ gr).only ?_
     try simp only [go_sem,seval,YB]
     refine io ?_
     exact eI
   ·have e2':¬ g=c.goals.length:=by omega
    rw [decide_eq_false e2']
    refine io ?_
    exact eI
   ·have e1':¬ v=c.vars.length:=by omega
    rw [decide_eq_false e1']
    refine io ?_
    exact eI
end Go.Vx
