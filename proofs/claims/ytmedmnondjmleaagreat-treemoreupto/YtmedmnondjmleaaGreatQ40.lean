/- Part Q40 of the proof of treeMoreProved: the walk of the program on abstract values, and the plain law. -/
import Derived.Test.YtmedmnondjmleaaGreatQ37
import Derived.Test.YtmedmnondjmleaaGreatQ39
set_option linter.unusedVariables false
set_option linter.unusedSimpArgs false
set_option maxRecDepth 100000
namespace Go.Vx
open Go.Proofs
theorem tb4:(Zh Tryz.prog 25=some 2)∧(Ze Tryz.prog 25=some true)∧(ZE Tryz.prog 35 2=some 3)∧(Zh Tryz.prog 33=some 1)∧(Ze Tryz.prog 33=some false)∧(ZE Tryz.prog 35 0=some 0)∧(Zh Tryz.prog 9=some 1)∧(Ze Tryz.prog 9=some false)∧(Zl Tryz.prog 30=some (.agg #[(.int .i64 0),(.slice none 0 0),(.int .i64 0),(.slice none 0 0),(.slice none 0 0),(.slice none 0 0)]))∧(Zh Tryz.prog 30=some 6)∧(Ze Tryz.prog 30=some true)∧(ZB Tryz.prog 50=none)∧(Zh Tryz.prog 3=some 1)∧(Tryz.prog.underlying 50=some (.array 2 3))∧(Ze Tryz.prog 3=some false)∧(ZB Tryz.prog 33=some 52)∧(Zh Tryz.prog 52=some 4)∧(Zl Tryz.prog 52=some (.agg #[(.int .i64 0),(.int .i64 0),(.string ⟨#[]⟩),(.slice none 0 0)]))∧(ZE Tryz.prog 25 1=some 1)∧(Zh Tryz.prog 23=some 1)∧(Ze Tryz.prog 23=some false)∧(Zl Tryz.prog 25=some (.agg #[(.slice none 0 0),(.slice none 0 0)]))∧(ZB Tryz.prog 23=some 3)∧(Zl Tryz.prog 3=some (.int .i64 0))∧(ZB Tryz.prog 26=some 32)∧(Zh Tryz.prog 32=some 2)∧(ZE Tryz.prog 32 0=some 0)∧(Ze Tryz.prog 32=some true)∧(Zl Tryz.prog 32=some (.agg #[(.int .i64 0),(.int .i64 0)]))∧(Tryz.prog.underlying 9=some .string)∧(Tryz.prog.underlying 33=some (.slice 52))∧(ZU Tryz.prog 52=some 56)∧(Tryz.prog.underlying 23=some (.slice 3))∧(ZU Tryz.prog 3=some 8)∧(Tryz.prog.underlying 26=some (.slice 32))∧(ZU Tryz.prog 32=some 16):=by
 refine ⟨?_,?_,?_,?_,?_,?_,?_,?_,?_,?_,?_,?_,?_,?_,?_,?_,?_,?_,?_,?_,?_,?_,?_,?_,?_,?_,?_,?_,?_,?_,?_,?_,?_,?_,?_,?_⟩<;>first | trivial | kernel_rfl
theorem Pur.shift {P:Program}{k:FuncId}{args args':List AV}{v:AV}{σ σ1:Store}{K:ZQ→Store→Prop}(h:Pur P k args' v)(h0:∀ w,Zo σ w→Zo σ1 w∧Ev σ w σ1 w)(hl:args.length=args'.length)
 (hs:∀ (i:Nat) (a a':AV),args[i]?=some a→args'[i]?=some a'→Y2 a σ a' σ1) (hk:K (.ret v) σ1):Zi P k args σ K:=by
 refine ⟨(h σ1).1,fun w vs hσ hv=>?_⟩
 have hv':Vs (live σ1) w args' vs.toList:=⟨by rw [← hl];exact hv.1,fun i a' x ha' hx=>by
  have hi:i<args.length:=by rw [hl];exact (List.getElem?_eq_some_iff.1 ha').1
  exact (hs i _ a' (List.getElem?_eq_getElem hi) ha' w x hσ (hv.2 i _ x (List.getElem?_eq_getElem hi) hx)).1⟩
 refine ((h σ1).2 w vs (h0 w hσ).1 hv').mono fun e w' he=>?_
 cases e with
 | returned v =>
   obtain ⟨av,σ',⟨h1,rfl⟩,b,c,d⟩:=he
   injection h1 with h1;subst h1
   exact ⟨_,σ',hk,b,c,(h0 w hσ).2.trans d⟩
 | panicked c=>obtain ⟨pv,σ',_,⟨h1,_⟩,_⟩:=he;cases h1
 | outgrown=>exact he.elim
theorem Y2.agg {cs cs':List AV}{σ σ':Store}(h0:∀ w,Zo σ w→Zo σ' w∧Ev σ w σ' w)(hl:cs.length=cs'.length)(h:∀ (i:Nat) (c c':AV),cs[i]?=some c→cs'[i]?=some c'→Y2 c σ c' σ'):Y2 (.agg cs) σ (.agg cs') σ':=by
 intro w x hσ hv
 refine ⟨?_,h0 w hσ⟩
 cases hv with
 | agg _ vs hvl hv =>
   refine .agg cs' vs (by omega) (fun i c v hc hvi=>?_)
   have hi:i<cs.length:=by have:=(List.getElem?_eq_some_iff.1 hc).1;omega
   exact (h i _ c (List.getElem?_eq_getElem hi) hc w v hσ (hv i _ v (List.getElem?_eq_getElem hi) hvi)).1
theorem U8 {P:Program}{sT xT el by_ sz s s2:Nat}{z:Value}{σ:Store}{es:List (List AV)}{rt:Rt}{K:AV→Store→Prop}(hs2:s2=sz∨es=[])(hes:∀ e∈es,e.length=sz)(h1:ZB P sT=some el)(h2:Zh P el=some sz)(h3:Zl P el=some z)(h4:ZU P el=some by_)
 (h5:(ZB P xT).isSome=true) (h6:z.cells.size=sz) (h7:by_≤512) (he1:es.flatten.all AV.one=true) (hl:es.length≤137438953472) (hne:es≠[])
 (kk:∀ (b cap:Nat) (rest:List AV),Zx σ b→es.length≤cap→K (.val (.slice (some ⟨b,0,none⟩) es.length cap)) ((b,.cells (es.flatten++rest))::σ)):Uo P sT xT (.list .full s []) (.list rt s2 es) σ K:=by
 unfold Uo
 rw [h1]
 simp only [h2,h3,h4]
 refine ⟨h5,h6,h7,hs2,hes,?_⟩
 refine ⟨by simp only [lim];simpa using hl,by simp,by simp,fun h=>absurd h hne,fun _ b nc zs hb hnc hzs=>?_⟩
 have:=kk b nc zs hb (by simpa using hnc)
 simpa using this
theorem dn (l:List Tm):∀ e∈cw l,e.length=4:=fun e he=>by rw [cZ] at he;obtain ⟨⟨k,n,s,a⟩,_,rfl⟩:=List.mem_map.1 he;rfl
theorem dE (l:List Tm):(cw l).flatten.all AV.one=true:=by
 rw [List.all_eq_true];intro x hx;obtain ⟨e,he,hx⟩:=List.mem_flatten.1 hx;rw [cZ] at he;obtain ⟨⟨k,n,s,a⟩,_,rfl⟩:=List.mem_map.1 he
 simp [Tm.emb] at hx;rcases hx with rfl | rfl | rfl | rfl<;>rfl
theorem JO {sz n:Nat}{es:List (List AV)}{rest:List AV}(h:∀ e∈es,e.length=sz)(hn:n=es.length):(es.flatten++rest).take (n * sz)=es.flatten:=by
 have:=SD h
 rw [hn,← this,List.take_left]
theorem VY (es:List (List AV))(sz:Nat)(hsz:∀ e∈es,e.length=sz)(rest:List AV)(a:Nat)(e':List AV)(he':e'.length=sz)(ha:a<es.length):Yr (es.flatten++rest) (a * sz) e'=(es.set a e').flatten++rest:=by
 have hln:(es.take a).flatten.length=a * sz:=by rw [SD (fun e he=>hsz e (List.mem_of_mem_take he)),List.length_take,Nat.min_eq_left (by omega)]
 have h2:es[a].length=sz:=hsz _ (List.getElem_mem ha)
 have hsp:es=es.take a++es[a]::es.drop (a+1):=by rw [List.getElem_cons_drop,List.take_append_drop]
 have hset:es.set a e'=es.take a++e'::es.drop (a+1):=by rw [List.set_eq_take_append_cons_drop,if_pos ha]
 rw [hset]
 conv=>lhs;rw [hsp]
 rw [List.flatten_append,List.flatten_append,List.flatten_cons,List.flatten_cons,← hln]
 unfold Yr
 generalize (es.take a).flatten=A at *
 generalize (es.drop (a+1)).flatten=B
 generalize es[a]=C at *
 have:A.length+e'.length=A.length+C.length:=by omega
 rw [this,List.append_assoc,List.take_left,← List.length_append,show A++(C++B++rest)=(A++C)++(B++rest) by simp,List.drop_left]
 simp
theorem dI (l:List Tm)(a:Nat)(t:Tm):(cw l).set a t.emb=cw (l.set a t):=by rw [cZ,cZ,List.map_set]
theorem QD (l:List Int)(a:Nat)(x:Int):(Yw l).set a [vi x]=Yw (l.set a x):=by simp [Yw,List.map_set]
theorem VJ (l:List Int):(Yw l).flatten.all AV.one=true:=by rw [List.all_eq_true];intro x hx;obtain ⟨e,he,hx⟩:=List.mem_flatten.1 hx;obtain ⟨n,_,rfl⟩:=List.mem_map.1 he;simp at hx;subst hx;rfl
theorem Xr (l:List Int):∀ e∈Yw l,e.length=1:=fun e he=>by obtain ⟨t,_,rfl⟩:=List.mem_map.1 he;rfl
theorem Gy:WL (Z8 0)=0:=by kernel_rfl
theorem LB (f:Flat)(pred:Str)(xr xa a0 a1:Int)(args:List Tm)(hH:f.rules.length≤300→(Z6 f pred).length≤137438953472) :
 Pur Tryz.prog 4 [.agg f.emb,.agg (CE pred xr xa args),.agg [vi a0,vi a1]] (vb true):=by
 intro σ
 have hsa:=BO
 have hfew:=aY f
 have hsh:=DF args .none 4 (.inl rfl)
 have hbu:=fun h=>Wu f pred (hH h)
 have hcl:=fun h=>Ou f pred (hH h)
 have hlaw:=Fg f pred args
 have hBb:trN (ZP f pred).1≤bigN:=Nat.le_trans (U3 f pred) (by decide)
 have hsb:=Wy (ZP f pred).1 args hBb .none 4 (.inl rfl)
 have hsv:=Wy (ZP f pred).1 (args.set a0.toNat (Z8 0)) hBb .none 4 (.inl rfl)
 have hsl:=R5 0
 obtain ⟨⟨b,eb⟩,hBu⟩:∃ q,q=ZP f pred:=⟨_,rfl⟩
 obtain ⟨⟨cl,n,e⟩,hC⟩:∃ q,q=WA f pred:=⟨_,rfl⟩
 rw [← hBu] at hbu hsb hsv hlaw
 rw [← hC] at hcl hlaw
 simp only at hbu hsb hsv hlaw hcl
 obtain ⟨⟨sl,g⟩,hS⟩:∃ q,q=Yy b args:=⟨_,rfl⟩
 obtain ⟨⟨sv,gv⟩,hV⟩:∃ q,q=Yy b (args.set a0.toNat (Z8 0)):=⟨_,rfl⟩
 rw [← hS] at hsb hlaw
 rw [← hV] at hsv
 simp only at hsb hsv hlaw
 have hwi:=HY sl sv .none .none 2 2 (.inl rfl) (.inl rfl)
 clear hC hBu hBb hS
 refine Zi.nodup (by kernel_rfl) (fun hnd=>?_)
 obtain ⟨kb,pb,ab,yb,cb,ebb⟩:=b
 simp only [CE,Flat.emb,ck] at hfew hcl hsb hsv hbu ⊢
 refine Zb [96,132] [(11,4,0),(28,7,0)] Tryz.func4 rfl (by kernel_rfl) ?_;rw [Tryz.ntmps4,Tryz.results4]
 refine fh ?_
 refine hsa.use ?_
 refine fh ?_
 refine (hfew _).mono ?_
 rintro r _ ⟨⟨b1,rfl,hb1⟩,rfl⟩
 cases b1 with
 | false =>
   refine fh ?_
   exact Zv
 | true =>
   have h300:=hb1 rfl
   refine fh ?_
   refine (hsh _).mono ?_
   rintro r σ1 ⟨⟨b3,rfl,hb3⟩,rfl⟩
   cases b3 with
   | false =>
     refine fh ?_
     exact Zv
   | true =>
     have h12:=hb3 rfl
     by_cases h100:(100:Int)<((pred.size:Nat):Int)
     ·have e100:=eq_true h100
      try simp only [go_sem,seval,tb4,e100,decide_true]
      exact Zv
     ·have e100:=eq_false h100
      try simp only [go_sem,seval,tb4,e100,decide_false]
      refine (hbu h300).use ?_
      refine fh ?_
      intro bx hbx
      refine hsb.use ?_
      refine fh ?_
      refine (hcl h300).use ?_
      by_cases heb:eb=0
      ·subst heb
       by_cases hg:g=0
       ·subst hg
        by_cases he:e=0
        ·subst he
         by_cases hn:((n:Nat):Int)=((args.length:Nat):Int)
         ·have en:=eq_true hn
          obtain ⟨l0,l1,l2⟩:=hlaw rfl rfl hn
          try simp only [go_sem,seval,tb4,en,decide_true,bX]
          by_cases c1:0≤a0
          ·have x1:=eq_true c1
           by_cases c2:a0<((args.length:Nat):Int)
           ·have x2:=eq_true c2
            obtain ⟨ai,rfl⟩:∃ ai:Nat,a0=ai:=⟨a0.toNat,by omega⟩
            obtain ⟨l3,l4⟩:=l1 ai (Z8 0) Gy (by kernel_rfl)
            try simp only [go_sem,seval,tb4,x1,x2,decide_true,bX]
            refine ⟨rfl,U8 (.inl rfl) (dn _) tb4.2.2.2.2.2.2.2.2.2.2.2.2.2.2.2.1 tb4.2.2.2.2.2.2.2.2.2.2.2.2.2.2.2.2.1 tb4.2.2.2.2.2.2.2.2.2.2.2.2.2.2.2.2.2.1 tb4.2.2.2.2.2.2.2.2.2.2.2.2.2.2.2.2.2.2.2.2.2.2.2.2.2.2.2.2.2.2.2.1 (by kernel_rfl) rfl (by decide) (dE _) (by rw [bX];omega) (fun h=>by have:=congrArg List.length h;rw [bX] at this;simp at this;simp [this] at c2;omega) fun b cap rest hb hcap=>?_⟩
            try simp only [go_sem,seval,tb4,bX]
            refine hsl.head ?_
            have nb:b≠bx:=Ne.symm hb.1
            have hsp:=VY (cw args) 4 (dn _) rest ai (Z8 0).emb rfl (by rw [bX];omega)
            have hfl:=SD (dn args)
            rw [dI] at hsp
            simp only [go_sem,seval,Z8,cg,cw,Yr] at hsp
            simp only [Int.toNat_natCast] at hsv hV
            rw [← hV] at l3 l4
            simp only at l3 l4
            subst l3
            try simp only [go_sem,seval,tb4,bX,Z8,cg,cw,nb,Int.toNat_natCast]
            rw [hsp]
            refine ⟨by omega,by omega,by rw [List.length_append,hfl,bX];omega,?_⟩
            refine hsv.shift (σ1:=(bx,AObj.cells [vi kb,.list .none 2 (cj pb),vi ab,.list .none 6 (cm yb),.list .none 7 (cH cb),.list .none 6 (cm ebb)])::σ1) (fun w hw=>⟨hw.sub (Sub.cons _ _),(Sub.cons _ _).ev w⟩) rfl (fun i x x' hx hx'=>?_) ?_
            ·match i with
             | 0=>simp at hx hx';subst hx;subst hx';exact .of (.refl _) (.cons _ _)
             | 1 =>
               simp only [List.getElem?_cons_succ,List.getElem?_cons_zero,Option.some.injEq] at hx hx';subst hx;subst hx'
               refine (da (sz:=4) (Zj _ _ _) (by simp [bX]) (by rw [bX] at hcap;omega) (by simp only [lim];omega) (fun i e he=>dn _ e (List.mem_of_getElem? he)) (JO (dn _) (by simp [bX])) (dE _)).trans (.of (.refl _) ?_)
               simp only [Store.del,if_true];exact .refl _
             | i+2=>simp at hx
            refine fh ?_
            have hall:(sl.all fun x=>decide (x∈sv))=true:=by
             rw [List.all_eq_true];intro x hx;simpa using l4 x hx
            rw [hall] at hwi
            refine hwi.use ?_
            refine fh ?_
            clear hsp
            by_cases d1:a1<0
            ·have y1:=eq_true d1
             try simp only [go_sem,seval,tb4,y1,decide_true]
             exact eO
            ·have y1:=eq_false d1
             by_cases d2:((f.rules.length:Nat):Int)≤a1
             ·have y2:=eq_true d2
              refine fm ?_
              exact eO
             ·have y2:=eq_false d2
              obtain ⟨bi,rfl⟩:∃ bi:Nat,a1=bi:=⟨a1.toNat,by omega⟩
              obtain ⟨l5,l6⟩:=l2 bi
              refine fm ?_
              intro bq hbq
              have nqx:bq≠bx:=Ne.symm hbq.1
              try simp only [go_sem,seval,tb4,nqx]
              refine ⟨rfl,U8 (.inl rfl) (Xr _) tb4.2.2.2.2.2.2.2.2.2.2.2.2.2.2.2.2.2.2.2.2.2.2.1 tb4.2.2.2.2.2.2.2.2.2.2.2.2.1 tb4.2.2.2.2.2.2.2.2.2.2.2.2.2.2.2.2.2.2.2.2.2.2.2.1 tb4.2.2.2.2.2.2.2.2.2.2.2.2.2.2.2.2.2.2.2.2.2.2.2.2.2.2.2.2.2.2.2.2.2.1 (by kernel_rfl) rfl (by decide) (VJ _) (by rw [ZC];omega) (fun h=>by have:=congrArg List.length h;rw [ZC] at this;simp at this;simp [this] at d2) fun b2 cap2 rest2 hb2 hcap2=>?_⟩
              have n2q:b2≠bq:=Ne.symm hb2.1
              have n2x:b2≠bx:=Ne.symm hb2.2.1
              have hsp2:=VY (Yw f.rules) 1 (Xr _) rest2 bi [vi (-1)] rfl (by rw [ZC];omega)
              rw [QD] at hsp2
              simp only [go_sem,seval,Yr] at hsp2
              refine iM ?_
              have hhw:(Z6 (Z3 f bi) pred).length≤137438953472:=by rw [Ws];exact Nat.le_trans (List.length_filter_le _ _) (hH h300)
              have hbq:=Wu (Z3 f bi) pred hhw
              have hsq:=Wy (ZP (Z3 f bi) pred).1 args (Nat.le_trans (U3 (Z3 f bi) pred) (show (4000:Nat)≤bigN by decide)) .none 4 (.inl rfl)
              obtain ⟨⟨u,eu⟩,hU⟩:∃ q,q=ZP (Z3 f bi) pred:=⟨_,rfl⟩
              rw [← hU] at hbq hsq l5 l6
              simp only at hbq hsq l5 l6
              obtain ⟨⟨sq,gq⟩,hQ⟩:∃ q,q=Yy u args:=⟨_,rfl⟩
              rw [← hQ] at hsq l6
              obtain ⟨ku,pu,au,yu,cu,euu⟩:=u
              simp only [Z3,Flat.emb,ck] at hbq hsq
              rw [hsp2]
              refine ⟨by omega,by omega,by rw [List.length_append,SD (Xr _),ZC];omega,?_⟩
              have hT:Sub ((bx,AObj.cells [vi kb,.list .none 2 (cj pb),vi ab,.list .none 6 (cm yb),.list .none 7 (cH cb),.list .none 6 (cm ebb)])::σ1) ((bq,AObj.cells [.list .none 2 (cF f.groups),.val (.slice (some ⟨b2,0,none⟩) f.rules.length cap2)])::(bx,AObj.cells [vi kb,.list .none 2 (cj pb),vi ab,.list .none 6 (cm yb),.list .none 7 (cH cb),.list .none 6 (cm ebb)])::σ1):=.cons _ _
              refine hbq.shift (fun w hw=>⟨hw.sub (hT.skip _),(hT.skip _).ev w⟩) rfl (fun i x x' hx hx'=>?_) ?_
              ·match i with
               | 0 =>
                 simp only [List.getElem?_cons_zero,Option.some.injEq] at hx hx';subst hx;subst hx'
                 refine .agg (fun w hw=>⟨hw.sub (hT.skip _),(hT.skip _).ev w⟩) rfl (fun i x x' hx hx'=>?_)
                 match i with
                 | 0=>simp at hx hx';subst hx;subst hx';exact .of (.refl _) (hT.skip _)
                 | 1 =>
                   simp only [List.getElem?_cons_succ,List.getElem?_cons_zero,Option.some.injEq] at hx hx';subst hx;subst hx'
                   refine (da (sz:=1) (Zj _ _ _) (by simp) (by rw [ZC] at hcap2;omega) (by simp only [lim];omega) (fun i e he=>Xr _ e (List.mem_of_getElem? he)) (JO (Xr _) (by simp)) (VJ _)).trans (.of (.refl _) ?_)
                   simp only [Store.del,if_true];exact hT
                 | i+2=>simp at hx
               | 1=>simp at hx hx';subst hx;subst hx';exact .of (.refl _) (hT.skip _)
               | i+2=>simp at hx
              refine fh ?_
              intro b19 hb19
              by_cases hu:eu=0
              ·subst hu
               have l7:=l6 rfl
               injection l7 with l7 l8
               subst l7;subst l8
               refine fh ?_
               refine hsq.use ?_
               refine fh ?_
               have hsll:sl.length≤137438953472:=Nat.le_trans l0 (hH h300)
               refine Zw (mu:=[96,132]) (dr:=[(11,4,0),(28,7,0)]) [23,24,164,165,166,167,168,169,170,171,172,173,174,175,176,177,178,179,180,181,182,183,184] (fun x:Nat×AV×Store=>[(24,vi x.1),(23,x.2.1)]) (fun x=>x.2.2) (fun x=>x.1≤sl.length∧LV σ1 x.2.2 x.2.1 2 (cj ((sl.take x.1).filter (Y5 bi)))∧Has σ1 x.2.2) (fun x=>sl.length-x.1) (0,.list .full 0 [],_) (by kernel_rfl) ⟨by omega,LV.nil _ _ _,((Has.refl _).cons _).cons _⟩ ⟨.refl _,.refl _,trivial⟩ (.refl _) ?_
               rintro ⟨i,v,S⟩ ⟨i1,i2,i3⟩
               simp only at i1 i2 i3
               try simp only [go_sem,seval,tb4,cd]
               refine ⟨fun g1=>?_,fun g1=>?_⟩
               ·obtain ⟨p0,hp⟩:∃ p0,sl[i]?=some p0:=⟨_,List.getElem?_eq_getElem (by omega)⟩
                have hst:(sl.take (i+1)).filter (Y5 bi)=(sl.take i).filter (Y5 bi)++(if p0.rule=(bi:Int) then [] else [p0]):=by
                 rw [List.take_add_one,hp,Option.toList_some,List.filter_append]
                 by_cases hr:p0.rule=(bi:Int)<;>simp [Y5,hr]
                have hw:IntKind.i64.wrap ((i:Int)+1)=((i+1:Nat):Int):=Zp (by omega) (by omega)
                refine ⟨by omega,by omega,fun c hc=>?_⟩
                rw [Int.toNat_natCast] at hc
                obtain ⟨p1,hp1,rfl⟩:=cJ hc
                rw [hp] at hp1;injection hp1 with hp1;subst hp1
                by_cases hr:p0.rule=(bi:Int)
                ·have r1:=eq_true hr
                 rw [if_pos hr,List.append_nil] at hst
                 refine iy ?_
                 rw [hw]
                 refine .mk (i+1,v,S) ⟨by simp only;omega,by simp only;rw [hst];exact i2,i3⟩ (by simp only;omega) ⟨.refl _,.refl _,trivial⟩ (by repeat first | exact Zg.turn _ rfl | refine Zg.put rfl ?_) (.refl _)
                ·have r1:=eq_false hr
                 rw [if_neg hr] at hst
                 refine im ?_
                 refine ⟨by omega,by omega,fun c hc=>?_⟩
                 rw [Int.toNat_natCast] at hc
                 obtain ⟨p1,hp1,rfl⟩:=cJ hc
                 rw [hp] at hp1;injection hp1 with hp1;subst hp1
                 try simp only [go_sem,seval,tb4,Pick.emb,i2.one,i2.cells]
                 refine ⟨rfl,i2.append rfl (by decide) (by simp only [cd,List.length_singleton];have:=List.length_filter_le (Y5 bi) (sl.take i);rw [List.length_take] at this;omega) rfl (by simp) i3 (fun v' S' hv' hkp hS'=>?_)⟩
                 try simp only [go_sem,seval,tb4,hv'.one,hv'.cells]
                 rw [hw]
                 refine .mk (i+1,v',S') ⟨by simp only;omega,?_,hS'⟩ (by simp only;omega) ⟨.refl _,.refl _,trivial⟩ (by repeat first | exact Zg.turn _ rfl | refine Zg.put rfl ?_) (.refl _)
                 simp only
                 rw [hst,show cj ((sl.take i).filter (Y5 bi)++[p0])=cj ((sl.take i).filter (Y5 bi))++[[vi p0.rule,vi p0.alt]] by simp [cj,Pick.emb]]
                 exact hv'
               ·try simp only [go_sem,seval,tb4,i2.one,i2.cells]
                rw [List.take_of_length_le (by omega)] at i2
                have i2':=i2
                obtain ⟨rt,sz,rfl,hz,_⟩:=i2'
                have hsp:=UB (sl.filter (Y5 bi)) (sl.filter (Y5 bi)) .none rt 2 sz (.inl rfl) (hz.imp id (fun h=>by have:=congrArg List.length h;rw [cd] at this;exact List.length_eq_zero_iff.1 this))
                refine hsp.use ?_
                try simp only [go_sem,seval,tb4,decide_true]
                exact iE
              ·have z1:=eq_false hu
               by_cases h3:eu=3
               ·subst h3
                refine fx ?_
                exact fj
               ·have h2:=l5 hu h3
                subst h2
                refine fx ?_
                exact fj
           ·have x2:=eq_false c2
            try simp only [go_sem,seval,tb4,x1,x2,decide_true,decide_false,bX]
            by_cases d1:a1<0
            ·have y1:=eq_true d1
             try simp only [go_sem,seval,tb4,y1,decide_true]
             exact eO
            ·have y1:=eq_false d1
             by_cases d2:((f.rules.length:Nat):Int)≤a1
             ·have y2:=eq_true d2
              refine fm ?_
              exact eO
             ·have y2:=eq_false d2
              obtain ⟨bi,rfl⟩:∃ bi:Nat,a1=bi:=⟨a1.toNat,by omega⟩
              obtain ⟨l5,l6⟩:=l2 bi
              refine fm ?_
              intro bq hbq
              have nqx:bq≠bx:=Ne.symm hbq.1
              try simp only [go_sem,seval,tb4,nqx]
              refine ⟨rfl,U8 (.inl rfl) (Xr _) tb4.2.2.2.2.2.2.2.2.2.2.2.2.2.2.2.2.2.2.2.2.2.2.1 tb4.2.2.2.2.2.2.2.2.2.2.2.2.1 tb4.2.2.2.2.2.2.2.2.2.2.2.2.2.2.2.2.2.2.2.2.2.2.2.1 tb4.2.2.2.2.2.2.2.2.2.2.2.2.2.2.2.2.2.2.2.2.2.2.2.2.2.2.2.2.2.2.2.2.2.1 (by kernel_rfl) rfl (by decide) (VJ _) (by rw [ZC];omega) (fun h=>by have:=congrArg List.length h;rw [ZC] at this;simp at this;simp [this] at d2) fun b2 cap2 rest2 hb2 hcap2=>?_⟩
              have n2q:b2≠bq:=Ne.symm hb2.1
              have n2x:b2≠bx:=Ne.symm hb2.2.1
              have hsp2:=VY (Yw f.rules) 1 (Xr _) rest2 bi [vi (-1)] rfl (by rw [ZC];omega)
              rw [QD] at hsp2
              simp only [go_sem,seval,Yr] at hsp2
              refine iM ?_
              have hhw:(Z6 (Z3 f bi) pred).length≤137438953472:=by rw [Ws];exact Nat.le_trans (List.length_filter_le _ _) (hH h300)
              have hbq:=Wu (Z3 f bi) pred hhw
              have hsq:=Wy (ZP (Z3 f bi) pred).1 args (Nat.le_trans (U3 (Z3 f bi) pred) (show (4000:Nat)≤bigN by decide)) .none 4 (.inl rfl)
              obtain ⟨⟨u,eu⟩,hU⟩:∃ q,q=ZP (Z3 f bi) pred:=⟨_,rfl⟩
              rw [← hU] at hbq hsq l5 l6
              simp only at hbq hsq l5 l6
              obtain ⟨⟨sq,gq⟩,hQ⟩:∃ q,q=Yy u args:=⟨_,rfl⟩
              rw [← hQ] at hsq l6
              obtain ⟨ku,pu,au,yu,cu,euu⟩:=u
              simp only [Z3,Flat.emb,ck] at hbq hsq
              rw [hsp2]
              refine ⟨by omega,by omega,by rw [List.length_append,SD (Xr _),ZC];omega,?_⟩
              have hT:Sub ((bx,AObj.cells [vi kb,.list .none 2 (cj pb),vi ab,.list .none 6 (cm yb),.list .none 7 (cH cb),.list .none 6 (cm ebb)])::σ1) ((bq,AObj.cells [.list .none 2 (cF f.groups),.val (.slice (some ⟨b2,0,none⟩) f.rules.length cap2)])::(bx,AObj.cells [vi kb,.list .none 2 (cj pb),vi ab,.list .none 6 (cm yb),.list .none 7 (cH cb),.list .none 6 (cm ebb)])::σ1):=.cons _ _
              refine hbq.shift (fun w hw=>⟨hw.sub (hT.skip _),(hT.skip _).ev w⟩) rfl (fun i x x' hx hx'=>?_) ?_
              ·match i with
               | 0 =>
                 simp only [List.getElem?_cons_zero,Option.some.injEq] at hx hx';subst hx;subst hx'
                 refine .agg (fun w hw=>⟨hw.sub (hT.skip _),(hT.skip _).ev w⟩) rfl (fun i x x' hx hx'=>?_)
                 match i with
                 | 0=>simp at hx hx';subst hx;subst hx';exact .of (.refl _) (hT.skip _)
                 | 1 =>
                   simp only [List.getElem?_cons_succ,List.getElem?_cons_zero,Option.some.injEq] at hx hx';subst hx;subst hx'
                   refine (da (sz:=1) (Zj _ _ _) (by simp) (by rw [ZC] at hcap2;omega) (by simp only [lim];omega) (fun i e he=>Xr _ e (List.mem_of_getElem? he)) (JO (Xr _) (by simp)) (VJ _)).trans (.of (.refl _) ?_)
                   simp only [Store.del,if_true];exact hT
                 | i+2=>simp at hx
               | 1=>simp at hx hx';subst hx;subst hx';exact .of (.refl _) (hT.skip _)
               | i+2=>simp at hx
              refine fh ?_
              intro b19 hb19
              by_cases hu:eu=0
              ·subst hu
               have l7:=l6 rfl
               injection l7 with l7 l8
               subst l7;subst l8
               refine fh ?_
               refine hsq.use ?_
               refine fh ?_
               have hsll:sl.length≤137438953472:=Nat.le_trans l0 (hH h300)
               refine Zw (mu:=[96,132]) (dr:=[(11,4,0),(28,7,0)]) [23,24,164,165,166,167,168,169,170,171,172,173,174,175,176,177,178,179,180,181,182,183,184] (fun x:Nat×AV×Store=>[(24,vi x.1),(23,x.2.1)]) (fun x=>x.2.2) (fun x=>x.1≤sl.length∧LV σ1 x.2.2 x.2.1 2 (cj ((sl.take x.1).filter (Y5 bi)))∧Has σ1 x.2.2) (fun x=>sl.length-x.1) (0,.list .full 0 [],_) (by kernel_rfl) ⟨by omega,LV.nil _ _ _,((Has.refl _).cons _).cons _⟩ ⟨.refl _,.refl _,trivial⟩ (.refl _) ?_
               rintro ⟨i,v,S⟩ ⟨i1,i2,i3⟩
               simp only at i1 i2 i3
               try simp only [go_sem,seval,tb4,cd]
               refine ⟨fun g1=>?_,fun g1=>?_⟩
               ·obtain ⟨p0,hp⟩:∃ p0,sl[i]?=some p0:=⟨_,List.getElem?_eq_getElem (by omega)⟩
                have hst:(sl.take (i+1)).filter (Y5 bi)=(sl.take i).filter (Y5 bi)++(if p0.rule=(bi:Int) then [] else [p0]):=by
                 rw [List.take_add_one,hp,Option.toList_some,List.filter_append]
                 by_cases hr:p0.rule=(bi:Int)<;>simp [Y5,hr]
                have hw:IntKind.i64.wrap ((i:Int)+1)=((i+1:Nat):Int):=Zp (by omega) (by omega)
                refine ⟨by omega,by omega,fun c hc=>?_⟩
                rw [Int.toNat_natCast] at hc
                obtain ⟨p1,hp1,rfl⟩:=cJ hc
                rw [hp] at hp1;injection hp1 with hp1;subst hp1
                by_cases hr:p0.rule=(bi:Int)
                ·have r1:=eq_true hr
                 rw [if_pos hr,List.append_nil] at hst
                 refine iy ?_
                 rw [hw]
                 refine .mk (i+1,v,S) ⟨by simp only;omega,by simp only;rw [hst];exact i2,i3⟩ (by simp only;omega) ⟨.refl _,.refl _,trivial⟩ (by repeat first | exact Zg.turn _ rfl | refine Zg.put rfl ?_) (.refl _)
                ·have r1:=eq_false hr
                 rw [if_neg hr] at hst
                 refine im ?_
                 refine ⟨by omega,by omega,fun c hc=>?_⟩
                 rw [Int.toNat_natCast] at hc
                 obtain ⟨p1,hp1,rfl⟩:=cJ hc
                 rw [hp] at hp1;injection hp1 with hp1;subst hp1
                 try simp only [go_sem,seval,tb4,Pick.emb,i2.one,i2.cells]
                 refine ⟨rfl,i2.append rfl (by decide) (by simp only [cd,List.length_singleton];have:=List.length_filter_le (Y5 bi) (sl.take i);rw [List.length_take] at this;omega) rfl (by simp) i3 (fun v' S' hv' hkp hS'=>?_)⟩
                 try simp only [go_sem,seval,tb4,hv'.one,hv'.cells]
                 rw [hw]
                 refine .mk (i+1,v',S') ⟨by simp only;omega,?_,hS'⟩ (by simp only;omega) ⟨.refl _,.refl _,trivial⟩ (by repeat first | exact Zg.turn _ rfl | refine Zg.put rfl ?_) (.refl _)
                 simp only
                 rw [hst,show cj ((sl.take i).filter (Y5 bi)++[p0])=cj ((sl.take i).filter (Y5 bi))++[[vi p0.rule,vi p0.alt]] by simp [cj,Pick.emb]]
                 exact hv'
               ·try simp only [go_sem,seval,tb4,i2.one,i2.cells]
                rw [List.take_of_length_le (by omega)] at i2
                have i2':=i2
                obtain ⟨rt,sz,rfl,hz,_⟩:=i2'
                have hsp:=UB (sl.filter (Y5 bi)) (sl.filter (Y5 bi)) .none rt 2 sz (.inl rfl) (hz.imp id (fun h=>by have:=congrArg List.length h;rw [cd] at this;exact List.length_eq_zero_iff.1 this))
                refine hsp.use ?_
                try simp only [go_sem,seval,tb4,decide_true]
                exact iE
              ·have z1:=eq_false hu
               by_cases h3:eu=3
               ·subst h3
                refine fx ?_
                exact fj
               ·have h2:=l5 hu h3
                subst h2
                refine fx ?_
                exact fj
          ·have x1:=eq_false c1
           try simp only [go_sem,seval,tb4,x1,decide_false]
           by_cases d1:a1<0
           ·have y1:=eq_true d1
            try simp only [go_sem,seval,tb4,y1,decide_true]
            exact eO
           ·have y1:=eq_false d1
            by_cases d2:((f.rules.length:Nat):Int)≤a1
            ·have y2:=eq_true d2
             refine fm ?_
             exact eO
            ·have y2:=eq_false d2
             obtain ⟨bi,rfl⟩:∃ bi:Nat,a1=bi:=⟨a1.toNat,by omega⟩
             obtain ⟨l5,l6⟩:=l2 bi
             refine fm ?_
             intro bq hbq
             have nqx:bq≠bx:=Ne.symm hbq.1
             try simp only [go_sem,seval,tb4,nqx]
             refine ⟨rfl,U8 (.inl rfl) (Xr _) tb4.2.2.2.2.2.2.2.2.2.2.2.2.2.2.2.2.2.2.2.2.2.2.1 tb4.2.2.2.2.2.2.2.2.2.2.2.2.1 tb4.2.2.2.2.2.2.2.2.2.2.2.2.2.2.2.2.2.2.2.2.2.2.2.1 tb4.2.2.2.2.2.2.2.2.2.2.2.2.2.2.2.2.2.2.2.2.2.2.2.2.2.2.2.2.2.2.2.2.2.1 (by kernel_rfl) rfl (by decide) (VJ _) (by rw [ZC];omega) (fun h=>by have:=congrArg List.length h;rw [ZC] at this;simp at this;simp [this] at d2) fun b2 cap2 rest2 hb2 hcap2=>?_⟩
             have n2q:b2≠bq:=Ne.symm hb2.1
             have n2x:b2≠bx:=Ne.symm hb2.2.1
             have hsp2:=VY (Yw f.rules) 1 (Xr _) rest2 bi [vi (-1)] rfl (by rw [ZC];omega)
             rw [QD] at hsp2
             simp only [go_sem,seval,Yr] at hsp2
             refine iM ?_
             have hhw:(Z6 (Z3 f bi) pred).length≤137438953472:=by rw [Ws];exact Nat.le_trans (List.length_filter_le _ _) (hH h300)
             have hbq:=Wu (Z3 f bi) pred hhw
             have hsq:=Wy (ZP (Z3 f bi) pred).1 args (Nat.le_trans (U3 (Z3 f bi) pred) (show (4000:Nat)≤bigN by decide)) .none 4 (.inl rfl)
             obtain ⟨⟨u,eu⟩,hU⟩:∃ q,q=ZP (Z3 f bi) pred:=⟨_,rfl⟩
             rw [← hU] at hbq hsq l5 l6
             simp only at hbq hsq l5 l6
             obtain ⟨⟨sq,gq⟩,hQ⟩:∃ q,q=Yy u args:=⟨_,rfl⟩
             rw [← hQ] at hsq l6
             obtain ⟨ku,pu,au,yu,cu,euu⟩:=u
             simp only [Z3,Flat.emb,ck] at hbq hsq
             rw [hsp2]
             refine ⟨by omega,by omega,by rw [List.length_append,SD (Xr _),ZC];omega,?_⟩
             have hT:Sub ((bx,AObj.cells [vi kb,.list .none 2 (cj pb),vi ab,.list .none 6 (cm yb),.list .none 7 (cH cb),.list .none 6 (cm ebb)])::σ1) ((bq,AObj.cells [.list .none 2 (cF f.groups),.val (.slice (some ⟨b2,0,none⟩) f.rules.length cap2)])::(bx,AObj.cells [vi kb,.list .none 2 (cj pb),vi ab,.list .none 6 (cm yb),.list .none 7 (cH cb),.list .none 6 (cm ebb)])::σ1):=.cons _ _
             refine hbq.shift (fun w hw=>⟨hw.sub (hT.skip _),(hT.skip _).ev w⟩) rfl (fun i x x' hx hx'=>?_) ?_
             ·match i with
              | 0 =>
                simp only [List.getElem?_cons_zero,Option.some.injEq] at hx hx';subst hx;subst hx'
                refine .agg (fun w hw=>⟨hw.sub (hT.skip _),(hT.skip _).ev w⟩) rfl (fun i x x' hx hx'=>?_)
                match i with
                | 0=>simp at hx hx';subst hx;subst hx';exact .of (.refl _) (hT.skip _)
                | 1 =>
                  simp only [List.getElem?_cons_succ,List.getElem?_cons_zero,Option.some.injEq] at hx hx';subst hx;subst hx'
                  refine (da (sz:=1) (Zj _ _ _) (by simp) (by rw [ZC] at hcap2;omega) (by simp only [lim];omega) (fun i e he=>Xr _ e (List.mem_of_getElem? he)) (JO (Xr _) (by simp)) (VJ _)).trans (.of (.refl _) ?_)
                  simp only [Store.del,if_true];exact hT
                | i+2=>simp at hx
              | 1=>simp at hx hx';subst hx;subst hx';exact .of (.refl _) (hT.skip _)
              | i+2=>simp at hx
             refine fh ?_
             intro b19 hb19
             by_cases hu:eu=0
             ·subst hu
              have l7:=l6 rfl
              injection l7 with l7 l8
              subst l7;subst l8
              refine fh ?_
              refine hsq.use ?_
              refine fh ?_
              have hsll:sl.length≤137438953472:=Nat.le_trans l0 (hH h300)
              refine Zw (mu:=[96,132]) (dr:=[(11,4,0),(28,7,0)]) [23,24,164,165,166,167,168,169,170,171,172,173,174,175,176,177,178,179,180,181,182,183,184] (fun x:Nat×AV×Store=>[(24,vi x.1),(23,x.2.1)]) (fun x=>x.2.2) (fun x=>x.1≤sl.length∧LV σ1 x.2.2 x.2.1 2 (cj ((sl.take x.1).filter (Y5 bi)))∧Has σ1 x.2.2) (fun x=>sl.length-x.1) (0,.list .full 0 [],_) (by kernel_rfl) ⟨by omega,LV.nil _ _ _,((Has.refl _).cons _).cons _⟩ ⟨.refl _,.refl _,trivial⟩ (.refl _) ?_
              rintro ⟨i,v,S⟩ ⟨i1,i2,i3⟩
              simp only at i1 i2 i3
              try simp only [go_sem,seval,tb4,cd]
              refine ⟨fun g1=>?_,fun g1=>?_⟩
              ·obtain ⟨p0,hp⟩:∃ p0,sl[i]?=some p0:=⟨_,List.getElem?_eq_getElem (by omega)⟩
               have hst:(sl.take (i+1)).filter (Y5 bi)=(sl.take i).filter (Y5 bi)++(if p0.rule=(bi:Int) then [] else [p0]):=by
                rw [List.take_add_one,hp,Option.toList_some,List.filter_append]
                by_cases hr:p0.rule=(bi:Int)<;>simp [Y5,hr]
               have hw:IntKind.i64.wrap ((i:Int)+1)=((i+1:Nat):Int):=Zp (by omega) (by omega)
               refine ⟨by omega,by omega,fun c hc=>?_⟩
               rw [Int.toNat_natCast] at hc
               obtain ⟨p1,hp1,rfl⟩:=cJ hc
               rw [hp] at hp1;injection hp1 with hp1;subst hp1
               by_cases hr:p0.rule=(bi:Int)
               ·have r1:=eq_true hr
                rw [if_pos hr,List.append_nil] at hst
                refine iy ?_
                rw [hw]
                refine .mk (i+1,v,S) ⟨by simp only;omega,by simp only;rw [hst];exact i2,i3⟩ (by simp only;omega) ⟨.refl _,.refl _,trivial⟩ (by repeat first | exact Zg.turn _ rfl | refine Zg.put rfl ?_) (.refl _)
               ·have r1:=eq_false hr
                rw [if_neg hr] at hst
                refine im ?_
                refine ⟨by omega,by omega,fun c hc=>?_⟩
                rw [Int.toNat_natCast] at hc
                obtain ⟨p1,hp1,rfl⟩:=cJ hc
                rw [hp] at hp1;injection hp1 with hp1;subst hp1
                try simp only [go_sem,seval,tb4,Pick.emb,i2.one,i2.cells]
                refine ⟨rfl,i2.append rfl (by decide) (by simp only [cd,List.length_singleton];have:=List.length_filter_le (Y5 bi) (sl.take i);rw [List.length_take] at this;omega) rfl (by simp) i3 (fun v' S' hv' hkp hS'=>?_)⟩
                try simp only [go_sem,seval,tb4,hv'.one,hv'.cells]
                rw [hw]
                refine .mk (i+1,v',S') ⟨by simp only;omega,?_,hS'⟩ (by simp only;omega) ⟨.refl _,.refl _,trivial⟩ (by repeat first | exact Zg.turn _ rfl | refine Zg.put rfl ?_) (.refl _)
                simp only
                rw [hst,show cj ((sl.take i).filter (Y5 bi)++[p0])=cj ((sl.take i).filter (Y5 bi))++[[vi p0.rule,vi p0.alt]] by simp [cj,Pick.emb]]
                exact hv'
              ·try simp only [go_sem,seval,tb4,i2.one,i2.cells]
               rw [List.take_of_length_le (by omega)] at i2
               have i2':=i2
               obtain ⟨rt,sz,rfl,hz,_⟩:=i2'
               have hsp:=UB (sl.filter (Y5 bi)) (sl.filter (Y5 bi)) .none rt 2 sz (.inl rfl) (hz.imp id (fun h=>by have:=congrArg List.length h;rw [cd] at this;exact List.length_eq_zero_iff.1 this))
               refine hsp.use ?_
               try simp only [go_sem,seval,tb4,decide_true]
               exact iE
             ·have z1:=eq_false hu
              by_cases h3:eu=3
              ·subst h3
               refine fx ?_
               exact fj
              ·have h2:=l5 hu h3
               subst h2
               refine fx ?_
               exact fj
         ·have en:=eq_false hn
          try simp only [go_sem,seval,tb4,en,decide_false,bX]
          exact eO
        ·have ee:=eq_false he
         try simp only [go_sem,seval,tb4,ee,decide_false]
         exact eO
       ·have ee:=eq_false hg
        try simp only [go_sem,seval,tb4,ee,decide_false]
        exact eO
      ·have ee:=eq_false heb
       try simp only [go_sem,seval,tb4,ee,decide_false]
       exact eO
end Go.Vx
