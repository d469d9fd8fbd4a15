/- Part Q41 of the proof of treeLooksProved: the walk of the program on abstract values, and the plain law. -/
import Derived.Test.YtmedmnondjmleaaGreatQ40
set_option linter.unusedVariables false
set_option linter.unusedSimpArgs false
section
set_option maxRecDepth 100000
namespace Go.Vx
open Go.Proofs
theorem Vu:(Zz Tryz.prog 30 0=some 0)∧(Zh Tryz.prog 3=some 1)∧(Ze Tryz.prog 3=some false)∧(Zz Tryz.prog 30 1=some 1)∧(Zh Tryz.prog 26=some 1)∧(Ze Tryz.prog 26=some false)∧(ZA Tryz.prog 26=some 32)∧(Zh Tryz.prog 32=some 2)∧(Ze Tryz.prog 32=some true)∧(Zl Tryz.prog 32=some (.agg #[(.int .i64 0),(.int .i64 0)]))∧(Zz Tryz.prog 32 0=some 0)∧(Zz Tryz.prog 25 1=some 1)∧(Zh Tryz.prog 23=some 1)∧(Ze Tryz.prog 23=some false)∧(ZA Tryz.prog 23=some 3)∧(Zz Tryz.prog 25 0=some 0)∧(Zh Tryz.prog 22=some 1)∧(Ze Tryz.prog 22=some false)∧(Zz Tryz.prog 32 1=some 1)∧(ZA Tryz.prog 22=some 129)∧(Zh Tryz.prog 129=some 2)∧(Zz Tryz.prog 129 1=some 1)∧(Zh Tryz.prog 127=some 1)∧(Ze Tryz.prog 127=some false)∧(ZA Tryz.prog 127=some 132)∧(Zh Tryz.prog 132=some 7)∧(Zz Tryz.prog 132 4=some 4)∧(Zh Tryz.prog 33=some 1)∧(Ze Tryz.prog 33=some false)∧(ZA Tryz.prog 33=some 52)∧(Zh Tryz.prog 52=some 4)∧(Zz Tryz.prog 52 0=some 0)∧(ZA Tryz.prog 91=some 4)∧(Zh Tryz.prog 4=some 1)∧(Ze Tryz.prog 4=some false)∧(Zz Tryz.prog 30 2=some 2)∧(Zz Tryz.prog 30 3=some 3)∧(Zh Tryz.prog 27=some 1)∧(Ze Tryz.prog 27=some false)∧(Zz Tryz.prog 30 5=some 5)∧(Zl Tryz.prog 4=some (.bool false))∧(Zz Tryz.prog 30 4=some 4)∧(Zh Tryz.prog 28=some 1)∧(Ze Tryz.prog 28=some false)∧(ZA Tryz.prog 28=some 114)∧(Zh Tryz.prog 114=some 7)∧(Zz Tryz.prog 114 1=some 1)∧(Zh Tryz.prog 30=some 6)∧(Ze Tryz.prog 30=some true)∧(Zh Tryz.prog 25=some 2)∧(Ze Tryz.prog 25=some true)∧(ZA Tryz.prog 27=some 30)∧(Tryz.prog.underlying 26=some (.slice 32))∧(Tryz.prog.underlying 23=some (.slice 3))∧(Tryz.prog.underlying 22=some (.slice 129))∧(Tryz.prog.underlying 127=some (.slice 132))∧(Tryz.prog.underlying 33=some (.slice 52))∧(Tryz.prog.underlying 91=some (.slice 4))∧(Tryz.prog.underlying 27=some (.slice 30))∧(ZQ Tryz.prog 4=some 1)∧(Tryz.prog.underlying 28=some (.slice 114)):=by
 refine ⟨?_,?_,?_,?_,?_,?_,?_,?_,?_,?_,?_,?_,?_,?_,?_,?_,?_,?_,?_,?_,?_,?_,?_,?_,?_,?_,?_,?_,?_,?_,?_,?_,?_,?_,?_,?_,?_,?_,?_,?_,?_,?_,?_,?_,?_,?_,?_,?_,?_,?_,?_,?_,?_,?_,?_,?_,?_,?_,?_,?_,?_⟩<;>first | trivial | kernel_rfl
theorem AWp.shift {P:Program}{n:Nat}{ds:List Deferred}{c:Code}{Q:Exit→Fr→Store→Prop}{fr fr':Fr}{σ σ':Store}(hs:WC fr σ fr' σ')(h:AWp P n ds c Q fr' σ'):AWp P n ds c Q fr σ:=fun a w hc Q' hq=>by
 obtain ⟨c2,v2⟩:=hs.conf hc
 exact h a w c2 Q' (fun e f s a' w' q c' v=>hq e f s a' w' q c' (v2.trans v))
theorem UH (l:List Bool):∀ e∈XA l,e.length=1:=fun e he=>by obtain ⟨t,_,rfl⟩:=List.mem_map.1 he;rfl
theorem Ox (l:List Bool):(XA l).flatten.all AV.one=true:=by rw [List.all_eq_true];intro x hx;obtain ⟨e,he,hx⟩:=List.mem_flatten.1 hx;obtain ⟨n,_,rfl⟩:=List.mem_map.1 he;simp at hx;subst hx;rfl
theorem Hx (l:List Bool)(a:Nat)(x:Bool):(XA l).set a [vb x]=XA (l.set a x):=by simp [XA,List.map_set]
theorem VH (l:List Bool):(XA l).length=l.length:=by simp
theorem WJ {α β:Type}{f:α→β}{l:List α}{i:Nat}{x:α}(h:l[i]?=some x):(l.map f)[i]?=some (f x):=by rw [List.getElem?_map,h];rfl
theorem Ss {α:Type}{l:List α}{i:Nat}{x:α}(h:l[i]?=some x):i<l.length:=(List.getElem?_eq_some_iff.1 h).1
theorem P2 (f:Flat)(t:Tr):trN t≤bigN→∀ seen:List Bool,seen.length≤1000→Gd f t seen→Pur Tryz.prog 41 [.agg t.emb,.agg f.emb,.list .none 1 (XA seen)] (vb true):=by
 refine Xa (M:=fun t=>trN t≤bigN→∀ seen:List Bool,seen.length≤1000→Gd f t seen→Pur Tryz.prog 41 [.agg t.emb,.agg f.emb,.list .none 1 (XA seen)] (vb true)) (fun t ih hB seen hs8 hG σ=>?_) t
 refine Zj.ok (by kernel_rfl) (fun hok=>?_)
 cases hG with
 | leaf p a y c e _ h =>
   have hpl:=((hok _ List.mem_cons_self).agg (c:=.list .none 2 (cI p)) (by simp [cm])).len
   rw [cB] at hpl
   have hfo:=hok (.agg f.emb) (by simp)
   clear hok
   simp only [cm,Flat.emb] at hfo ⊢
   refine Zc [] [(6,52,0),(8,13,0),(22,8,0),(24,14,0)] Tryz.func41 rfl (by kernel_rfl) ?_;rw [Tryz.ntmps41,Tryz.results41]
   try simp only [go_sem,seval,Vu]
   refine Zv (mu:=[]) (dr:=[(6,52,0),(8,13,0),(22,8,0),(24,14,0)]) [6,7,8,9,10,16,17,18,19,20,21,22,23,24,25,26,27,28,29,30,31,32,33,34,35,36,37,38,39,40,41,42,43,44,45,46,47,48,49,50,51,52,53,54,55,56,57,58,59,60,61,62,63,64,65,66,67,68,69,70,71,72,73,74,75,76,77,78,79,80,81,82,83,84,85,86,87,88,89,90,91,92,93,94,95,96,97,98,99,100,101,102,103,104,105,106,107,108,109,110,111,112,113,114,115,116,117,118,119,120,121,122] (fun i:Nat=>[(7,vi i)]) (fun _=>σ) (fun i=>i≤p.length) (fun i=>p.length-i) 0 (by kernel_rfl) (by omega) ⟨.refl _,trivial⟩ (.refl _) ?_
   intro i hi
   try simp only [go_sem,seval,Vu,cB]
   refine ⟨fun h1=>?_,fun h1=>?_⟩
   ·obtain ⟨x,hx⟩:∃ x,p[i]?=some x:=⟨_,List.getElem?_eq_getElem (by omega)⟩
    obtain ⟨r,j,n,u,cl,rfl,e2,e3,e4,e5,e6⟩:=h x (List.mem_of_getElem? hx)
    obtain ⟨m,rfl⟩:∃ m:Nat,n=m:=⟨n.toNat,by omega⟩
    rw [Int.toNat_natCast] at e4
    have l1:=Ss e2
    have l2:=Ss e4
    have l3:=Ss e5
    have g0:(cI p)[i]?=some [vi (r:Int),vi (j:Int)]:=WJ hx
    have g1:(f.rules.map fun n=>[vi n])[r]?=some [vi (m:Int)]:=WJ e2
    have g2:(cO f.groups)[m]?=some u.emb:=WJ e4
    have g3:(cK u.alts)[j]?=some cl.emb:=WJ e5
    have i0:(0≤(i:Int))=True:=eq_true (by omega)
    have i1:((i:Int)<((p.length:Nat):Int))=True:=eq_true (by omega)
    have f1:((r:Int)<0)=False:=eq_false (by omega)
    have f2:(((f.rules.length:Nat):Int)≤(r:Int))=False:=eq_false (by omega)
    have f3:(0≤(r:Int))=True:=eq_true (by omega)
    have f4:((r:Int)<((f.rules.length:Nat):Int))=True:=eq_true (by omega)
    have f5:((m:Int)<0)=False:=eq_false (by omega)
    have f6:(((f.groups.length:Nat):Int)≤(m:Int))=False:=eq_false (by omega)
    have f7:(0≤(m:Int))=True:=eq_true (by omega)
    have f8:((m:Int)<((f.groups.length:Nat):Int))=True:=eq_true (by omega)
    have f9:((j:Int)<0)=False:=eq_false (by omega)
    have f10:(((u.alts.length:Nat):Int)≤(j:Int))=False:=eq_false (by omega)
    have f11:(0≤(j:Int))=True:=eq_true (by omega)
    have f12:((j:Int)<((u.alts.length:Nat):Int))=True:=eq_true (by omega)
    try simp only [go_sem,seval,Vu,cB,i0,i1,g0,Int.toNat_natCast,Option.some.injEq,forall_eq',true_and]
    intro b8 hb8
    try simp only [go_sem,seval,Vu,f1,f2,f3,f4,f5,f6,f7,f8,f9,f10,f11,f12,g1,g2,g3,FGroup.emb,FClause.emb,ck,cw,List.length_map,Int.toNat_natCast,Option.some.injEq,forall_eq',true_and,decide_true,decide_false]
    have hal:cl.args.length≤137438953472:=by
     have h1:=(hfo.agg (c:=.list .none 2 (cO f.groups)) (by simp)).mem (e:=u.emb) (List.mem_of_getElem? g2)
     have h2:=(h1.agg (c:=.list .none 7 (cK u.alts)) (by simp [FGroup.emb])).mem (e:=cl.emb) (List.mem_of_getElem? g3)
     have h3:=(h2.agg (c:=.list .none 4 (cH cl.args)) (by simp [FClause.emb])).len
     rwa [ci] at h3
    refine Zv (mu:=[]) (dr:=[(6,52,0),(8,13,0),(22,8,0),(24,14,0)]) [6,10,98,99,100,101,102,103,104,105,106,107,108,109,110,111,112,113,114,115,116,117,118,119,120,121,122] (fun k:Nat=>[(10,vi k)]) (fun _=>(b8,.cells [vi (r:Int),vi (j:Int)])::σ) (fun k=>k≤cl.args.length) (fun k=>cl.args.length-k) 0 (by kernel_rfl) (by omega) ⟨.refl _,trivial⟩ (.refl _) ?_
    intro k hk
    have hw:IntKind.i64.wrap ((k:Int)+1)=((k+1:Nat):Int):=Zp (by omega) (by omega)
    have hwi:IntKind.i64.wrap ((i:Int)+1)=((i+1:Nat):Int):=Zp (by omega) (by omega)
    have k0:(0≤(k:Int))=True:=eq_true (by omega)
    by_cases c1:(k:Int)<((cl.args.length:Nat):Int)
    ·have x1:=eq_true c1
     by_cases c2:(k:Int)<((seen.length:Nat):Int)
     ·have x2:=eq_true c2
      obtain ⟨⟨kd,mm,s,l⟩,ht⟩:∃ q,cl.args[k]?=some q:=⟨_,List.getElem?_eq_getElem (by omega)⟩
      obtain ⟨b,hb⟩:∃ b,seen[k]?=some b:=⟨_,List.getElem?_eq_getElem (by omega)⟩
      have g4:(cH cl.args)[k]?=some [vi kd,vi mm,vs s,.list .none 4 (cH l)]:=by rw [dg];exact WJ ht
      have g5:(seen.map fun n=>[vb n])[k]?=some [vb b]:=WJ hb
      by_cases c3:kd=1
      ·have x3:=eq_true c3
       have hbt:b=true:=by
        cases b with
        | true=>rfl
        | false=>exact absurd c3 (e6 k kd mm s l ht hb)
       subst hbt
       refine ip ?_
       rw [hw]
       exact .mk (k+1) (by omega) (by omega) ⟨.refl _,trivial⟩ (by repeat first | exact Zf.turn _ rfl | refine Zf.put rfl ?_) (.refl _)
      ·have x3:=eq_false c3
       refine ip ?_
       rw [hw]
       exact .mk (k+1) (by omega) (by omega) ⟨.refl _,trivial⟩ (by repeat first | exact Zf.turn _ rfl | refine Zf.put rfl ?_) (.refl _)
     ·have x2:=eq_false c2
      try simp only [go_sem,seval,Vu,k0,x1,x2,ci,List.length_map,decide_true,decide_false]
      rw [hwi]
      exact .mk (i+1) (by omega) (by omega) ⟨.refl _,trivial⟩ (by repeat first | exact Zf.turn _ rfl | refine Zf.put rfl ?_ | refine cL _ rfl rfl ?_) (.cons _ _)
    ·have x1:=eq_false c1
     try simp only [go_sem,seval,Vu,k0,x1,ci,List.length_map,decide_true,decide_false]
     rw [hwi]
     exact .mk (i+1) (by omega) (by omega) ⟨.refl _,trivial⟩ (by repeat first | exact Zf.turn _ rfl | refine Zf.put rfl ?_ | refine cL _ rfl rfl ?_) (.cons _ _)
   ·try simp only [go_sem,seval,Vu]
    exact Zu
 | node a p y c e _ ha hy he hc =>
   clear hok
   have hpl:=WM (.mk 2 p (a:Int) [y] c [e])
   have hbig:bigN=1073741824:=rfl
   have kid:∀ x∈ZH (.mk 2 p (a:Int) [y] c [e]),Gd f x (seen.set a true)→Pur Tryz.prog 41 [.agg x.emb,.agg f.emb,.list .none 1 (XA (seen.set a true))] (vb true):=fun x hx hg =>
    ih x (Yj hx) (by have:=Yj hx;omega) _ (by simpa using hs8) hg
   have ky:=kid y (by simp [ZH]) hy
   have ke:=kid e (by simp [ZH]) he
   have kc:∀ x∈c,Pur Tryz.prog 41 [.agg x.tree.emb,.agg f.emb,.list .none 1 (XA (seen.set a true))] (vb true):=fun x hx=>kid _ (by simp only [ZH,List.mem_append,List.mem_map];exact .inr ⟨x,hx,rfl⟩) (hc x hx)
   simp only [ZH,List.length_append,List.length_map] at hpl
   clear kid ih
   obtain ⟨k1,p1,a1,y1,c1,e1⟩:=y
   obtain ⟨k2,p2,a2,y2,c2,e2⟩:=e
   have x1:((a:Int)<0)=False:=eq_false (by omega)
   have x2:(((seen.length:Nat):Int)≤(a:Int))=False:=eq_false (by omega)
   have x3:(0≤(a:Int))=True:=eq_true (by omega)
   have x4:((a:Int)<((seen.length:Nat):Int))=True:=eq_true (by omega)
   simp only [cm,Flat.emb,cD] at ky ke kc ⊢
   refine Zc [147] [(6,52,0),(8,13,0),(22,8,0),(24,14,0)] Tryz.func41 rfl (by kernel_rfl) ?_;rw [Tryz.ntmps41,Tryz.results41]
   try simp only [go_sem,seval,Vu,x1,x2,List.length_map,List.length_singleton,decide_true,decide_false]
   refine ⟨rfl,HW (.inl rfl) (UH _) Vu.2.2.2.2.2.2.2.2.2.2.2.2.2.2.2.2.2.2.2.2.2.2.2.2.2.2.2.2.2.2.2.2.1 Vu.2.2.2.2.2.2.2.2.2.2.2.2.2.2.2.2.2.2.2.2.2.2.2.2.2.2.2.2.2.2.2.2.2.1 Vu.2.2.2.2.2.2.2.2.2.2.2.2.2.2.2.2.2.2.2.2.2.2.2.2.2.2.2.2.2.2.2.2.2.2.2.2.2.2.2.2.1 Vu.2.2.2.2.2.2.2.2.2.2.2.2.2.2.2.2.2.2.2.2.2.2.2.2.2.2.2.2.2.2.2.2.2.2.2.2.2.2.2.2.2.2.2.2.2.2.2.2.2.2.2.2.2.2.2.2.2.2.2.1 (by kernel_rfl) rfl (by decide) (Ox _) (by rw [VH];omega) (fun h=>by have:=congrArg List.length h;rw [VH] at this;simp at this;simp [this] at ha) fun b cap rest hb hcap=>?_⟩
   have hsp:=LD (XA seen) 1 (UH _) rest a [vb true] rfl (by rw [VH];exact ha)
   rw [Hx] at hsp
   simp only [go_sem,seval,Yu] at hsp
   have x5:(a * 1+1≤((XA seen).flatten++rest).length)=True:=eq_true (by rw [List.length_append,Px (UH _),VH];omega)
   try simp only [go_sem,seval,Vu,x3,x4,x5,List.length_map,Int.toNat_natCast,true_and]
   rw [hsp]
   rw [VH] at hcap
   refine .shift (WC.put (k:=11) (v':=.list .none 1 (XA (seen.set a true))) (σ':=σ) rfl ((dt (sz:=1) (Zi _ _ _) (by simp) hcap (by simp only [lim];omega) (fun i e he=>UH _ e (List.mem_of_getElem? he)) (bh (UH _) (by simp)) (Ox _)).trans (.of (.refl _) (by simp only [Store.del,if_true];exact .refl _))) (fun w hw=>⟨hw.sub (Sub.cons _ _),(Sub.cons _ _).ev w⟩)) ?_
   refine Zv (mu:=[147]) (dr:=[(6,52,0),(8,13,0),(22,8,0),(24,14,0)]) [6,12,152,153,154,155,156,157,158,159,160,161,162,163,164,165,166,167,168] (fun k:Nat=>[(12,vi k)]) (fun _=>σ) (fun k=>k≤c.length) (fun k=>c.length-k) 0 (by kernel_rfl) (by omega) ⟨.refl _,trivial⟩ (.refl _) ?_
   intro k hk
   have k0:(0≤(k:Int))=True:=eq_true (by omega)
   by_cases c1:(k:Int)<((c.length:Nat):Int)
   ·have y1:=eq_true c1
    obtain ⟨⟨s,T⟩,ht⟩:∃ q,c[k]?=some q:=⟨_,List.getElem?_eq_getElem (by omega)⟩
    have hT:=kc _ (List.mem_of_getElem? ht)
    have g1:(cP c)[k]?=some (vs s::T.emb):=by rw [dv];exact WJ ht
    obtain ⟨k3,p3,a3,y3,c3,e3⟩:=T
    simp only [Cs.tree,cm] at hT g1
    try simp only [go_sem,seval,Vu,k0,y1,g1,cF,Int.toNat_natCast,Option.some.injEq,forall_eq',true_and]
    refine hT.use ?_
    try simp only [go_sem,seval,Vu]
    rw [show IntKind.i64.wrap ((k:Int)+1)=((k+1:Nat):Int) from Zp (by omega) (by omega)]
    exact .mk (k+1) (by omega) (by omega) ⟨.refl _,trivial⟩ (by repeat first | exact Zf.turn _ rfl | refine Zf.put rfl ?_) (.refl _)
   ·have z1:=eq_false c1
    try simp only [go_sem,seval,Vu,k0,z1,cF,List.length_singleton,Option.some.injEq,forall_eq',true_and]
    refine ky.head ?_
    try simp only [go_sem,seval,Vu,List.length_singleton,Option.some.injEq,forall_eq',true_and]
    refine ke.use ?_
    try simp only [go_sem,seval,Vu]
    exact Zu
end Go.Vx
end
section
set_option maxRecDepth 100000
namespace Go.Vx
open Go.Proofs
theorem tb9:(Zh Tryz.prog 25=some 2)∧(Ze Tryz.prog 25=some true)∧(Zh Tryz.prog 30=some 6)∧(Ze Tryz.prog 30=some true)∧(Zl Tryz.prog 30=some (.agg #[(.int .i64 0),(.slice none 0 0),(.int .i64 0),(.slice none 0 0),(.slice none 0 0),(.slice none 0 0)]))∧(ZA Tryz.prog 23=some 3)∧(Zh Tryz.prog 3=some 1)∧(Ze Tryz.prog 3=some false)∧(ZA Tryz.prog 91=some 4)∧(Zh Tryz.prog 4=some 1)∧(Zl Tryz.prog 4=some (.bool false))∧(ZQ Tryz.prog 4=some 1)∧(Tryz.prog.underlying 9=some .string)∧(Tryz.prog.underlying 23=some (.slice 3)):=by
 refine ⟨?_,?_,?_,?_,?_,?_,?_,?_,?_,?_,?_,?_,?_,?_⟩<;>first | trivial | kernel_rfl
theorem Pur.wk {P:Program}{k:FuncId}{args args':List AV}{v:AV}(h:Pur P k args' v)(hw:Wks args args'):Pur P k args v:=fun σ=>(h σ).wk hw
theorem Oa (t:Tr):(Uv t).length≤trN t:=by
 unfold Uv
 split
 ·simp
 ·unfold Vv
  rw [(Xj _ _).length_eq]
  exact Nat.le_trans (Nm _) (Fs t)
theorem NT (f:Flat)(t:Tr)(pred:Str)(hB:trN t≤bigN)(hH:f.rules.length≤300→(YI f pred).length≤137438953472) :
 Pur Tryz.prog 9 [.agg f.emb,.agg t.emb,vs pred] (vb true):=by
 intro σ
 have hsa:=BX
 have hfew:=bv f
 have hsm:=Ka t
 have hbu:=fun h=>SO f pred (hH h)
 have hcl:=fun h=>Ov f pred (hH h)
 have hBb:trN (YK f pred).1≤bigN:=Nat.le_trans (Hw f pred) (by decide)
 have hck:=fun h=>W9 f pred t hB (hH h)
 have hcb:=fun h=>W9 f pred (YK f pred).1 hBb (hH h)
 have hlt:=Ob f pred t
 have hlb:=Ob f pred (YK f pred).1
 have hkt:=JC t hB
 have hkb:=JC (YK f pred).1 hBb
 have hrt:=fun seen h g=>P2 f t hB seen h g
 have hrb:=fun seen h g=>P2 f (YK f pred).1 hBb seen h g
 have hLt:=Nat.le_trans (Oa t) hB
 have hLb:=Nat.le_trans (Oa (YK f pred).1) hBb
 have hbig:bigN=1073741824:=rfl
 have hvt:=Tz t hB
 have hvb:=Tz (YK f pred).1 hBb
 have hn8:(Xf f pred).2.1≤8:=by
  unfold Xf
  by_cases h:(Z1 f pred).2.2≠0
  ·rw [if_pos h];simp
  ·rw [if_neg h];exact (WU f pred (by omega)).2.2.1
 obtain ⟨⟨b,eb⟩,hBu⟩:∃ q,q=YK f pred:=⟨_,rfl⟩
 obtain ⟨⟨cl,n,e⟩,hC⟩:∃ q,q=Xf f pred:=⟨_,rfl⟩
 rw [← hBu] at hbu hcb hlb hkb hrb hvb hLb
 rw [← hC] at hcl hlt hlb hn8
 simp only at hbu hcb hlb hkb hrb hvb hcl hlt hn8 hLb
 obtain ⟨ct,hT⟩:∃ q,q=UF f pred t:=⟨_,rfl⟩
 obtain ⟨cb,hCB⟩:∃ q,q=UF f pred b:=⟨_,rfl⟩
 rw [← hT] at hck hlt
 rw [← hCB] at hcb hlb
 clear hC hBu hBb hT hCB
 obtain ⟨kt,pt,at_,yt,cst,et⟩:=t
 obtain ⟨kb,pb,ab,yb,csb,ebb⟩:=b
 simp only [Flat.emb,cm] at hfew hsm hcl hck hbu hcb hkt hkb hrt hrb hvt hvb ⊢
 refine Zc [] [(21,11,6)] Tryz.func9 rfl (by kernel_rfl) ?_;rw [Tryz.ntmps9,Tryz.results9]
 refine ii ?_
 refine hsa.use ?_
 refine ii ?_
 refine (hfew _).mono ?_
 rintro r _ ⟨⟨b1,rfl,hb1⟩,rfl⟩
 cases b1 with
 | false =>
   refine ii ?_
   exact Zu
 | true =>
   have h300:=hb1 rfl
   refine ii ?_
   refine (hsm _).mono ?_
   rintro r σ1 ⟨⟨b2,rfl⟩,rfl⟩
   cases b2 with
   | false =>
     refine ii ?_
     exact Zu
   | true =>
     by_cases h100:(100:Int)<((pred.size:Nat):Int)
     ·have e100:=eq_true h100
      try simp only [go_sem,seval,tb9,e100,decide_true]
      exact Zu
     ·have e100:=eq_false h100
      try simp only [go_sem,seval,tb9,e100,decide_false]
      refine (hcl h300).use ?_
      by_cases he:e=0
      ·subst he
       refine ii ?_
       refine (hbu h300).use ?_
       refine ii ?_
       intro b11 hb11
       refine Zv (mu:=[]) (dr:=[(21,11,6)]) [6,13,14,15,16,48,49,50,51,52,53,54,55,56,57,58,59,60,61,62,63,64,65,66,67,68,69,70,71,72,73,74,75,76,77,78,79,80,81,82,83,84,85,86,87,88,89,90,91,92,93,94,95,96,97,98,99,100,101,102] (fun i:Int=>[(13,vi i)]) (fun _=>_) (fun i=>i=0∨i=1∨i=2) (fun i=>(2-i).toNat) 0 (by kernel_rfl) (.inl rfl) ⟨.refl _,trivial⟩ (.refl _) ?_
       rintro i (rfl | rfl | rfl)
       ·try simp only [go_sem,seval,tb9,decide_true,decide_false]
        intro b14 hb14
        have n14:b14≠b11:=Ne.symm hb14.1
        try simp only [go_sem,seval,tb9,n14,Zi,decide_true,decide_false]
        by_cases hk:ct=0
        ·obtain ⟨l1,l2,l3⟩:=hlt hk
         have hr:=(hrt _ (by simp only [List.length_replicate];omega) l2).wk (args:=[_,_,.list .full 1 (List.replicate n [vb false])]) ⟨.refl _,.refl _,by rw [show XA (List.replicate n false)=List.replicate n [vb false] by simp [XA]];exact .list _ _ _,trivial⟩
         rw [hk] at hck
         refine (hck h300).use ?_
         refine iI ?_
         refine hkt.use ?_
         generalize Uv (.mk kt pt at_ yt cst et)=L at *
         refine ii ?_
         refine Zv (mu:=[]) (dr:=[(21,11,6)]) [6,16,71,72,73,74,75,76,77,78,79,80,81,82,83,84,85,86,87,88,89] (fun k:Nat=>[(16,vi k)]) (fun _=>_) (fun k=>k≤L.length) (fun k=>L.length-k) 0 (by kernel_rfl) (by omega) ⟨.refl _,trivial⟩ (.refl _) ?_
         intro k hk
         have k0:(0≤(k:Int))=True:=eq_true (by omega)
         by_cases c1:(k:Int)<((L.length:Nat):Int)
         ·have y1:=eq_true c1
          obtain ⟨x,hx⟩:∃ x,L[k]?=some x:=⟨_,List.getElem?_eq_getElem (by omega)⟩
          have g1:(L.map fun n=>[vi n])[k]?=some [vi x]:=WJ hx
          have hxb:=l1 x (List.mem_of_getElem? hx)
          have y2:(x<0)=False:=eq_false (by omega)
          have y3:(((n:Nat):Int)≤x)=False:=eq_false (by omega)
          refine iC ?_
          rw [show IntKind.i64.wrap ((k:Int)+1)=((k+1:Nat):Int) from Zp (by omega) (by omega)]
          exact .mk (k+1) (by omega) (by omega) ⟨.refl _,trivial⟩ (by repeat first | exact Zf.turn _ rfl | refine Zf.put rfl ?_) (.refl _)
         ·have y1:=eq_false c1
          try simp only [go_sem,seval,tb9,k0,y1,ZP,List.length_map,Zi]
          refine amk (z:=.bool false) (e:=4) (by_:=1) (by kernel_rfl) (by kernel_rfl) (by kernel_rfl) (by kernel_rfl) (by omega) (by decide) (by omega) rfl rfl ?_
          rw [Int.toNat_natCast,show cM (.bool false)=vb false from rfl]
          refine iI ?_
          refine hr.head ?_
          refine iI ?_
          refine hvt.head ?_
          unfold RC at l3
          generalize min (Uw (.mk kt pt at_ yt cst et) 9) 10=M at l3 ⊢
          have hw:IntKind.i64.wrap (((n:Nat):Int)+1)=((n:Nat):Int)+1:=Zp (by omega) (by omega)
          have y5:(((n:Nat):Int)+1<M)=False:=eq_false (by omega)
          try simp only [go_sem,seval,tb9,hw,y5,decide_false]
          exact .mk 1 (by decide) (by decide) ⟨.refl _,trivial⟩ (by repeat first | exact Zf.turn _ rfl | refine Zf.put rfl ?_ | refine cL _ rfl rfl ?_) (.cons _ _)
        ·have ek:=eq_false hk
         refine (hck h300).use ?_
         try simp only [go_sem,seval,tb9,ek,decide_true,decide_false]
         exact .mk 1 (by decide) (by decide) ⟨.refl _,trivial⟩ (by repeat first | exact Zf.turn _ rfl | refine Zf.put rfl ?_ | refine cL _ rfl rfl ?_) (.cons _ _)
       ·try simp only [go_sem,seval,tb9,decide_true,decide_false]
        intro b14 hb14
        have n14:b14≠b11:=Ne.symm hb14.1
        by_cases heb:eb=0
        ·have z1:=eq_true heb
         try simp only [go_sem,seval,tb9,n14,z1,Zi,decide_true,decide_false]
         by_cases hk:cb=0
         ·obtain ⟨l1,l2,l3⟩:=hlb hk
          have hr:=(hrb _ (by simp only [List.length_replicate];omega) l2).wk (args:=[_,_,.list .full 1 (List.replicate n [vb false])]) ⟨.refl _,.refl _,by rw [show XA (List.replicate n false)=List.replicate n [vb false] by simp [XA]];exact .list _ _ _,trivial⟩
          rw [hk] at hcb
          refine (hcb h300).use ?_
          refine iI ?_
          refine hkb.use ?_
          generalize Uv (.mk kb pb ab yb csb ebb)=L at *
          refine ii ?_
          refine Zv (mu:=[]) (dr:=[(21,11,6)]) [6,16,71,72,73,74,75,76,77,78,79,80,81,82,83,84,85,86,87,88,89] (fun k:Nat=>[(16,vi k)]) (fun _=>_) (fun k=>k≤L.length) (fun k=>L.length-k) 0 (by kernel_rfl) (by omega) ⟨.refl _,trivial⟩ (.refl _) ?_
          intro k hk
          have k0:(0≤(k:Int))=True:=eq_true (by omega)
          by_cases c1:(k:Int)<((L.length:Nat):Int)
          ·have y1:=eq_true c1
           obtain ⟨x,hx⟩:∃ x,L[k]?=some x:=⟨_,List.getElem?_eq_getElem (by omega)⟩
           have g1:(L.map fun n=>[vi n])[k]?=some [vi x]:=WJ hx
           have hxb:=l1 x (List.mem_of_getElem? hx)
           have y2:(x<0)=False:=eq_false (by omega)
           have y3:(((n:Nat):Int)≤x)=False:=eq_false (by omega)
           refine iC ?_
           rw [show IntKind.i64.wrap ((k:Int)+1)=((k+1:Nat):Int) from Zp (by omega) (by omega)]
           exact .mk (k+1) (by omega) (by omega) ⟨.refl _,trivial⟩ (by repeat first | exact Zf.turn _ rfl | refine Zf.put rfl ?_) (.refl _)
          ·have y1:=eq_false c1
           try simp only [go_sem,seval,tb9,k0,y1,ZP,List.length_map,Zi]
           refine amk (z:=.bool false) (e:=4) (by_:=1) (by kernel_rfl) (by kernel_rfl) (by kernel_rfl) (by kernel_rfl) (by omega) (by decide) (by omega) rfl rfl ?_
           rw [Int.toNat_natCast,show cM (.bool false)=vb false from rfl]
           refine iI ?_
           refine hr.head ?_
           refine iI ?_
           refine hvb.head ?_
           unfold RC at l3
           generalize min (Uw (.mk kb pb ab yb csb ebb) 9) 10=M at l3 ⊢
           have hw:IntKind.i64.wrap (((n:Nat):Int)+1)=((n:Nat):Int)+1:=Zp (by omega) (by omega)
           have y5:(((n:Nat):Int)+1<M)=False:=eq_false (by omega)
           try simp only [go_sem,seval,tb9,hw,y5,decide_false]
           exact .mk 2 (by decide) (by decide) ⟨.refl _,trivial⟩ (by repeat first | exact Zf.turn _ rfl | refine Zf.put rfl ?_ | refine cL _ rfl rfl ?_) (.cons _ _)
         ·have ek:=eq_false hk
          refine (hcb h300).use ?_
          try simp only [go_sem,seval,tb9,ek,decide_true,decide_false]
          exact .mk 2 (by decide) (by decide) ⟨.refl _,trivial⟩ (by repeat first | exact Zf.turn _ rfl | refine Zf.put rfl ?_ | refine cL _ rfl rfl ?_) (.cons _ _)
        ·have z1:=eq_false heb
         try simp only [go_sem,seval,tb9,n14,z1,Zi,decide_true,decide_false]
         exact .mk 2 (by decide) (by decide) ⟨.refl _,trivial⟩ (by repeat first | exact Zf.turn _ rfl | refine Zf.put rfl ?_ | refine cL _ rfl rfl ?_) (.cons _ _)
       ·try simp only [go_sem,seval,tb9,decide_true,decide_false]
        exact .mk (.refl _) ((Sub.refl _).skip _) ⟨rfl,rfl⟩
      ·have ee:=eq_false he
       try simp only [go_sem,seval,tb9,ee,decide_false]
       exact Zu
end Go.Vx
end
