/- Part Q31 of the proof of treeLooksProved: the walk of the program on abstract values, and the plain law. -/
import Derived.Test.YtmedmnondjmleaaGreatQ30
import Derived.Test.YtmedmnondjmleaaGreatQGrowLay
import Derived.Shelf.Spec.SlicesGrow
set_option linter.unusedVariables false
set_option linter.unusedSimpArgs false
section
set_option maxRecDepth 100000
namespace Go.Vx
open Go.Proofs Go.Shelf Go.RowKit
theorem WR:(ZA Tryz.prog 212=some 27)∧(Zh Tryz.prog 27=some 1)∧(Ze Tryz.prog 27=some false)∧((Tryz.prog.underlying 9).isSome=true)∧(ZJ (Tryz.prog.underlying 9)=false)∧(Tryz.prog.underlying 212=some (.slice 27))∧(Tryz.prog.underlying 27=some (.slice 30))∧(ZA Tryz.prog 27=some 30)∧(Zh Tryz.prog 30=some 6)∧(Zl Tryz.prog 30=some (.agg #[(.int .i64 0),(.slice none 0 0),(.int .i64 0),(.slice none 0 0),(.slice none 0 0),(.slice none 0 0)]))∧(ZQ Tryz.prog 30=some 112):=by
 refine ⟨?_,?_,?_,?_,?_,?_,?_,?_,?_,?_,?_⟩<;>first | trivial | kernel_rfl
theorem F3 {P:Program}{ρ:Ren}(L:Lays8.n4 P ρ)(i0:TypeInfo)(z:Value)(hi0:P.info? (ρ.t 25)=some i0)(hz0:i0.zero=some z)(hs0:0<i0.size)(hzs:z.cells.size=i0.size)(hb:i0.bytes≤512)(hent:Xn P (ρ.f 4)=true)(n:Nat)(hn:n≤137438953472)(σ:Store)(s:Nat) :
 Zj P (ρ.f 4) [.list .full s [],vi n] σ (fun r σ'=>∃ v,r=.ret v∧MW σ i0.size σ' v []∧Has σ σ'):=by
 refine ⟨hent,fun w vs hσ hv=>?_⟩
 obtain ⟨hl2,hvv⟩:=hv
 obtain ⟨v0,v1,rfl⟩:∃ v0 v1,vs=#[v0,v1]:=by
  obtain ⟨vl⟩:=vs
  match vl,hl2 with
  | [x,y],_=>exact ⟨x,y,rfl⟩
 have hv0:=hvv 0 _ v0 rfl rfl
 have hv1:=hvv 1 _ v1 rfl rfl
 have hv0':=hv0
 cases hv1
 cases hv0 with
 | list _ _ _ cap a b' o rd hcap hlim hsz ha hr h1 h2 =>
 have hcap0:cap=0:=by simpa [Pe] using hr
 subst hcap0
 by_cases h0:n=0
 ·subst h0
  have hcon:=Any8.slices_Grow_room L a 0 0 0 w (by omega) (by omega) (by omega) (by omega)
  refine Calls.mono hcon fun en w' he=>?_
  obtain ⟨rfl,rfl⟩:=he
  exact ⟨.list .full s [],σ,⟨_,rfl,.inl ⟨rfl,s,rfl⟩,.refl _⟩,hv0',hσ,.refl _ _⟩
 ·have hcon:=Any8.slices_Grow_grow L i0 z hi0 hz0 hs0 a 0 0 n [] w (by omega) (by omega)
   (by have:(0+n) * i0.bytes≤137438953472 * 512:=Nat.mul_le_mul (by omega) hb
       omega) (by omega) (by simp) (fun _=>rfl) (fun _ _ j v h=>by simp at h)
  refine Calls.mono hcon fun en w' he=>?_
  obtain ⟨rfl,rfl⟩:=he
  obtain ⟨G,hG⟩:∃ G,G=grownCap w (0+n) 0 (ρ.t 25):=⟨_,rfl⟩
  have hGn:n≤G:=by rw [hG];have:=grownCap_ge w (0+n) 0 (ρ.t 25);omega
  rw [← hG]
  obtain ⟨xs,hxs⟩:∃ xs:List Value,xs=(Builtin.zeroCells z.cells (0+n-0)).toList++(Builtin.zeroCells z.cells (G-(0+n))).toList:=⟨_,rfl⟩
  have hxl:xs.length=G * i0.size:=by
   rw [hxs,List.length_append,Wo,Wo,hzs,← Nat.add_mul];congr 1;omega
  have hcs:(([]:List Value).toArray++Builtin.zeroCells z.cells (0+n-0)++Builtin.zeroCells z.cells (G-(0+n)))=xs.toArray:=by
   rw [hxs];apply Array.toList_inj.1;simp
  rw [hcs]
  have e1:=Ev.drew σ w
  have hz2:=dN (live σ) w xs
  have ho:=hσ.drew
  have e2:=Ev.alloc ho (.cells xs.toArray (ρ.t 25)) (.cells (xs.map cM))
  have ok:=ho.alloc (.cells xs.toArray (ρ.t 25)) (.cells (xs.map cM)) (dm (ρ.t 25) hz2.1 (fun i c x hc hx=>((hz2.2 i c x hc hx).ev e1).ev e2))
  refine ⟨.val (.slice (some ⟨w.heap.size,0,none⟩) 0 G),(w.heap.size,.cells (xs.map cM))::σ,⟨_,rfl,.inr ⟨w.heap.size,G,xs.map cM,rfl,by rw [Zi];rfl,by simp [hxl],by omega,hσ.fresh (Nat.le_refl _)⟩,(Has.refl σ).cons _⟩,.val _,ok,e1.trans e2⟩
theorem Cx (n:Nat)(hn:n≤137438953472)(σ:Store)(s:Nat):Zj Tryz.prog 153 [.list .full s [],vi n] σ (fun r σ'=>∃ v,r=.ret v∧MW σ 6 σ' v []∧Has σ σ'):=by
 obtain ⟨i0,hi0,z0,hz0,h1,h2,h3⟩:∃ i0,Tryz.prog.info? 30=some i0∧∃ z,i0.zero=some z∧i0.size=6∧z.cells.size=6∧i0.bytes≤512:=by
  have hk:((Tryz.prog.info? 30).bind fun i=>i.zero.map fun z=>(i.size,z.cells.size,decide (i.bytes≤512)))=some (6,6,true):=by kernel_rfl
  cases hi:Tryz.prog.info? 30 with
  | none=>rw [hi] at hk;cases hk
  | some i =>
    rw [hi] at hk
    simp only [Option.bind_some] at hk
    cases hz:i.zero with
    | none=>rw [hz] at hk;cases hk
    | some z =>
      rw [hz] at hk
      simp only [Option.map_some,Option.some.injEq,Prod.mk.injEq,decide_eq_true_eq] at hk
      exact ⟨i,rfl,z,hz,hk⟩
 have h:=F3 Tryz.growTrees i0 z0 hi0 hz0 (by omega) (by omega) h3 (by kernel_rfl) n hn σ s
 rw [h1] at h
 exact h
end Go.Vx
end
section
set_option maxRecDepth 100000
namespace Go.Vx
open Go.Proofs
theorem WO:(ZA Tryz.prog 99=some 110)∧(Zh Tryz.prog 110=some 3)∧(Ze Tryz.prog 110=some true)∧(Zl Tryz.prog 110=some (.agg #[(.int .i64 0),(.int .i64 0),(.slice none 0 0)]))∧(Zz Tryz.prog 110 1=some 2)∧(Zh Tryz.prog 108=some 1)∧(Ze Tryz.prog 108=some false)∧(ZA Tryz.prog 108=some 107)∧(Zh Tryz.prog 107=some 2)∧(Ze Tryz.prog 107=some true)∧(Tryz.prog.underlying 158=some (.map 107 4))∧(Zl Tryz.prog 4=some (.bool false))∧(Zl Tryz.prog 107=some (.agg #[(.bool false),(.string ⟨#[]⟩)]))∧(Yx Tryz.prog 107=some [(0,1),(1,1)])∧(eqT Tryz.prog 107=some [1,2])∧(Zz Tryz.prog 107 1=some 1)∧(Zh Tryz.prog 9=some 1)∧(Ze Tryz.prog 9=some false)∧(Tryz.prog.underlying 159=some (.map 9 4))∧(Tryz.prog.underlying 9=some .string)∧(Tryz.prog.underlying 99=some (.slice 110)):=by
 refine ⟨?_,?_,?_,?_,?_,?_,?_,?_,?_,?_,?_,?_,?_,?_,?_,?_,?_,?_,?_,?_,?_⟩<;>first | trivial | kernel_rfl
def VI {κ:Type}[DecidableEq κ](acc:List κ)(n:κ):List κ:=if n∈acc then acc else acc++[n]
def dd {κ:Type}[DecidableEq κ](l:List κ):List κ:=l.foldl VI []
theorem TU {κ:Type}[DecidableEq κ]{acc:List κ}{n y:κ}:y∈VI acc n↔y=n∨y∈acc:=by
 unfold VI;split
 ·rename_i h;exact ⟨.inr,fun k=>k.elim (fun e=>e ▸ h) id⟩
 ·simp [or_comm]
theorem Q9 {κ:Type}[DecidableEq κ]{acc:List κ}{n:κ}(h:acc.Nodup):(VI acc n).Nodup:=by
 unfold VI;split
 ·exact h
 ·rename_i hn;rw [List.nodup_append];exact ⟨h,by simp,fun a ha b hb e=>by simp at hb;subst hb;subst e;exact hn ha⟩
theorem Ld {κ:Type}[DecidableEq κ](acc:List κ)(n:κ):(VI acc n).length≤acc.length+1:=by unfold VI;split<;>simp
theorem T2 {κ:Type}[DecidableEq κ](l:List κ)(x:κ):dd (l++[x])=VI (dd l) x:=by simp [dd,List.foldl_append]
theorem R0 {κ:Type}{M:List κ→Prop}(h0:M [])(h:∀ r x,M r→M (r++[x]))(l:List κ):M l:=by
 rw [← List.reverse_reverse l]
 induction l.reverse with
 | nil=>exact h0
 | cons x r ih=>rw [List.reverse_cons];exact h _ _ ih
theorem SE {κ:Type}[DecidableEq κ](l:List κ)(y:κ):y∈dd l↔y∈l:=by
 induction l using R0 with
 | h0=>first | exact List.nodup_nil | simp [dd]
 | h r x ih=>rw [T2,TU,ih];simp [or_comm]
theorem Ez {κ:Type}[DecidableEq κ](l:List κ):(dd l).Nodup:=by
 induction l using R0 with
 | h0=>first | exact List.nodup_nil | simp [dd]
 | h r x ih=>rw [T2];exact Q9 ih
theorem Nm {κ:Type}[DecidableEq κ](l:List κ):(dd l).length≤l.length:=by
 induction l using R0 with
 | h0=>first | exact List.nodup_nil | simp [dd]
 | h r x ih=>rw [T2,List.length_append,List.length_singleton];have:=Ld (dd r) x;omega
theorem P9 {κ:Type}(acc:List κ):(Y1 acc).map (·.1)=acc:=by
 unfold Y1
 rw [List.map_map]
 apply List.ext_getElem?
 intro i
 simp [List.getElem?_zipIdx,Function.comp_def]
theorem TW {κ:Type}[DecidableEq κ](acc:List κ)(n:κ):VL (Y1 acc) n (vb true) acc.length=Y1 (VI acc n)∧Uh (Y1 acc) n acc.length=(VI acc n).length:=by
 unfold VL Uh VI
 rw [P9]
 by_cases h:n∈acc
 ·rw [if_pos h,if_pos h,if_pos h]
  refine ⟨?_,rfl⟩
  have:∀ e∈Y1 acc,(if e.1=n then (n,vb true,e.2.2) else e)=e:=by
   intro e he
   unfold Y1 at he
   obtain ⟨p,_,rfl⟩:=List.mem_map.1 he
   split
   ·rename_i h;simp only at h;rw [h]
   ·rfl
  calc _=(Y1 acc).map id:=List.map_congr_left this
   _=_:=by simp
 ·rw [if_neg h,if_neg h,if_neg h]
  refine ⟨?_,by simp⟩
  simp [Y1,List.zipIdx_append]
def XB:Cls:=⟨true,ZS⟩
def Wx (l:List Row)(arg:Nat):List Cls:=l.map fun r=>r.classes.getD arg XB
def YN (l:List Row)(arg:Nat):List Str:=V4 (dd (((Wx l arg).filter fun c=>!decide (c=XB)).map Cls.name))
theorem Sp (l:List Row)(arg:Nat)(hlen:l.length≤137438953472)(hc:∀ r∈l,arg<r.classes.length)(rt:Rt)(sz:Nat)(hs:sz=3∨l=[]):Pur Tryz.prog 53 [.list rt sz (cC l),vi (arg:Int)] (.list .none 1 (Tk (YN l arg))):=by
 intro σ
 refine Zj.nodup (by kernel_rfl) (fun hnd=>?_)
 have hw:∀ j:Nat,j≤137438953472→IntKind.i64.wrap ((j:Int)+1)=((j+1:Nat):Int):=fun j hj=>Zp (by omega) (by omega)
 refine Zc [] [] Tryz.func53 rfl (by kernel_rfl) ?_;rw [Tryz.ntmps53,Tryz.results53]
 refine fP ?_
 intro r5 h5
 try simp only [go_sem,seval,WO,cE]
 refine Zv (mu:=[]) (dr:=[]) [7,13,14,15,16,17,18,19,20,21,22,23] (fun i:Nat=>[(13,vi i)]) (fun i=>(r5,.map (ZM keC (Y1 (dd (Wx (l.take i) arg)))) (dd (Wx (l.take i) arg)).length)::σ) (fun i=>i≤l.length) (fun i=>l.length-i) 0 (by kernel_rfl) (by omega) ⟨.refl _,trivial⟩ (.refl _) ?_
 rintro i hi
 try simp only [go_sem,seval,WO,cE]
 refine ⟨fun h1=>⟨?_,by omega,h1,fun c hcc=>?_⟩,fun h1=>?_⟩
 ·rcases hs with hs | hs
  ·rw [hs]
  ·rw [hs] at h1;simp at h1;omega
 ·rw [Int.toNat_natCast] at hcc
  obtain ⟨r,hr,rfl⟩:=df hcc
  have hra:=hc r (List.mem_of_getElem? hr)
  try simp only [go_sem,seval,WO,Row.emb]
  intro b7 hb7
  try simp only [go_sem,seval,WO,cS]
  refine ⟨by omega,by omega,fun c hcc=>?_⟩
  rw [Int.toNat_natCast] at hcc
  obtain ⟨k,hk,rfl⟩:=du hcc
  have hn:=T2 (Wx (l.take i) arg) k
  have hcl:Wx (l.take (i+1)) arg=Wx (l.take i) arg++[k]:=by
   unfold Wx;rw [List.take_add_one,hr,Option.toList_some,List.map_append]
   simp [List.getD_eq_getElem?_getD,hk]
  rw [← hcl] at hn
  try simp only [go_sem,seval,WO,Cls.emb]
  have g5:Store.get ((b7,AObj.cells [vi r.pick.rule,vi r.pick.alt,.list .none 2 (cA r.classes)])::(r5,.map (ZM keC (Y1 (dd (Wx (l.take i) arg)))) (dd (Wx (l.take i) arg)).length)::σ) r5=some (.map (ZM keC (Y1 (dd (Wx (l.take i) arg)))) (dd (Wx (l.take i) arg)).length):=by rw [Za (Ne.symm hb7.1),Zi]
  refine M5 WO.2.2.2.2.2.2.2.2.2.2.1 WO.2.2.2.2.2.2.2.2.2.2.2.2.2.2.1 (J6 k.any k.name) g5 ?_
  obtain ⟨u1,u2⟩:=TW (dd (Wx (l.take i) arg)) k
  rw [show (⟨k.any,k.name⟩:Cls)=k from rfl,u1,u2,← hn,Zk (Ne.symm hb7.1),Z6]
  refine fP ?_
  rw [hw i (by omega)]
  exact .mk (i+1) (by omega) (by omega) ⟨.refl _,trivial⟩ (by repeat first | exact Zf.turn _ rfl | refine Zf.put rfl ?_) ((Sub.refl _).skip _)
 ·have hil:l.take i=l:=List.take_of_length_le (by omega)
  rw [hil]
  refine fP ?_
  intro r8 h8
  have n58:r8≠r5:=Ne.symm h8.1
  obtain ⟨C,hC⟩:∃ C,C=dd (Wx l arg):=⟨_,rfl⟩
  rw [← hC]
  refine ⟨r5,C.length,_,_,_,WO.2.2.2.2.2.2.2.2.2.2.1,rfl,by rw [Za n58,Zi],fun b26 hb26=>?_⟩
  refine fP ?_
  have n268:b26≠r8:=Ne.symm hb26.1
  have n265:b26≠r5:=Ne.symm hb26.2.1
  refine Zv (mu:=[]) (dr:=[]) [9,27,28,29,30,31,32,33,34,35,36] (fun _:List Nat×List Str=>[]) (fun x=>(b26,.iter (some r5) C.length x.1 C.length)::(r8,.map (ZM keS (Y1 x.2)) x.2.length)::(r5,.map (ZM keC (Y1 C)) C.length)::σ)
   (fun x=>x.2.Nodup∧(∀ s,s∈x.2→∃ c∈C,c≠XB∧c.name=s)∧(∀ i,i∈x.1→∀ c,C[i]?=some c→c≠XB→c.name∈x.2)∧x.2.length≤x.1.length∧x.1.length+((List.range C.length).filter (fun j=>decide (j ∉ x.1))).length≤C.length) (fun x=>((List.range C.length).filter (fun j=>decide (j ∉ x.1))).length) ([],[]) (by kernel_rfl) ⟨List.nodup_nil,by simp,by simp,by simp,by simp only [List.length_nil,Nat.zero_add];exact Nat.le_trans (List.length_filter_le _ _) (by simp)⟩ trivial (.refl _) ?_
  rintro ⟨seen,done⟩ ⟨j1,j2,j3,j4,j5⟩
  simp only at j1 j2 j3 j4 j5
  have gr5:∀ sn,Store.get ((b26,.iter (some r5) C.length sn C.length)::(r8,.map (ZM keS (Y1 done)) done.length)::(r5,.map (ZM keC (Y1 C)) C.length)::σ) r5=some (.map (ZM keC (Y1 C)) C.length):=fun sn=>by rw [Za n265,Za n58,Zi]
  refine fP ?_
  refine ⟨b26,r5,C.length,ZM keC (Y1 C),seen,rfl,Zi _ _ _,gr5 _,fun hall=>?_,fun e he hne=>?_⟩
  ·refine fP ?_
   have hCl:C.length≤l.length:=by rw [hC];exact Nat.le_trans (Nm _) (by simp [Wx])
   refine (RX done (by omega) _ r8 (by rw [Za n268,Zi])).only ?_
   refine fP ?_
   have hp:done.Perm (dd (((Wx l arg).filter fun c=>!decide (c=XB)).map Cls.name)):=by
    refine (List.perm_ext_iff_of_nodup j1 (Ez _)).2 (fun s=>?_)
    rw [SE,List.mem_map]
    constructor
    ·intro hs
     obtain ⟨c,hc1,hc2,hc3⟩:=j2 s hs
     rw [hC,SE] at hc1
     exact ⟨c,List.mem_filter.2 ⟨hc1,by simp [hc2]⟩,hc3⟩
    ·rintro ⟨c,hc1,rfl⟩
     obtain ⟨hc1,hc2⟩:=List.mem_filter.1 hc1
     have hm:c∈C:=by rw [hC,SE];exact hc1
     obtain ⟨i,hi,rfl⟩:=List.getElem_of_mem hm
     exact j3 i (hall _ (X3.2 ⟨i,C[i],List.getElem?_eq_getElem hi,rfl⟩)) _ (List.getElem?_eq_getElem hi) (by simpa using hc2)
   have:V4 done=YN l arg:=Up UK Qk ((Xj _ _).trans hp) (WG UK _)
   rw [this]
   exact iq
  ·obtain ⟨i,c,hci,rfl⟩:=X3.1 he
   simp only [Z6]
   refine fP ?_
   refine ⟨b26,r5,C.length,ZM keC (Y1 C),seen,(keC c,vb true,i),rfl,Zi _ _ _,gr5 _,X3.2 ⟨i,c,hci,rfl⟩,?_⟩
   try simp only [go_sem,seval,WO,keC,Ew]
   intro b9 hb9
   refine fP ?_
   have hil:=(List.getElem?_eq_some_iff.1 hci).1
   have hlt:=Vd hil hne
   have hb:(decide (c.any=true)&&decide (c.name={ data:=#[] }))=decide (c=XB):=by
    obtain ⟨a,s⟩:=c
    simp [XB]
   rw [hb]
   by_cases hca:c=XB
   ·rw [decide_eq_true hca]
    refine fP ?_
    refine .mk (seen++[i],done) ⟨j1,j2,fun k hk c' hc' hn'=>?_,by simp only [List.length_append];omega,by simp only [List.length_append,List.length_singleton];omega⟩ hlt trivial (by repeat first | exact Zf.turn _ rfl | refine Zf.put rfl ?_) ((Sub.refl _).skip _)
    rcases List.mem_append.1 hk with h | h
    ·exact j3 k h c' hc' hn'
    ·simp at h;subst h;rw [hci] at hc';injection hc' with hc';exact absurd (hc' ▸ hca) hn'
   ·rw [decide_eq_false hca]
    refine fP ?_
    have n98:b9≠r8:=Ne.symm hb9.2.1
    refine Rf (l:=Y1 done) (c:=done.length) WO.2.2.2.2.2.2.2.2.2.2.2.2.2.2.2.2.2.2.1 WO.2.2.2.2.2.2.2.2.2.2.2.2.2.2.2.2.2.2.2.1 (by rw [Za n98,Za n268,Zi]) ?_
    obtain ⟨u1,u2⟩:=TW done c.name
    rw [u1,u2,Zk n98,Zk n268,Z6]
    refine fP ?_
    refine .mk (seen++[i],VI done c.name) ⟨Q9 j1,fun s hs=>?_,fun k hk c' hc' hn'=>?_,?_,by simp only [List.length_append,List.length_singleton];omega⟩ hlt trivial (by repeat first | exact Zf.turn _ rfl | refine Zf.put rfl ?_) ((Sub.refl _).skip _)
    ·rcases TU.1 hs with rfl | h
     ·exact ⟨c,List.mem_of_getElem? hci,hca,rfl⟩
     ·exact j2 s h
    ·rcases List.mem_append.1 hk with h | h
     ·exact TU.2 (.inr (j3 k h c' hc' hn'))
     ·simp at h;subst h;rw [hci] at hc';injection hc' with hc';exact TU.2 (.inl (by rw [hc']))
    ·have:=Ld done c.name
     simp only [List.length_append,List.length_singleton];omega
end Go.Vx
end
section
set_option maxRecDepth 100000
namespace Go.Vx
open Go.Proofs
def ZH:Tr→List Tr
 | .mk _ _ _ y c e=>y++e++c.map Cs.tree
def Tr.kind:Tr→Int
 | .mk k _ _ _ _ _=>k
mutual
def trN:Tr→Nat
 | .mk _ _ _ y c e=>trNs y+csN c+trNs e+1
def trNs:List Tr→Nat
 | []=>0
 | t::r=>trN t+trNs r
def csN:List Cs→Nat
 | []=>0
 | c::r=>AE c+csN r
def AE:Cs→Nat
 | .mk _ t=>trN t
end
theorem ED:∀ c:List Cs,csN c=trNs (c.map Cs.tree)
 | []=>rfl
 | .mk s t::r=>by simp only [csN,AE,List.map_cons,trNs,Cs.tree,ED r]
theorem H5 (l m:List Tr):trNs (l++m)=trNs l+trNs m:=by
 induction l with
 | nil=>simp [trNs]
 | cons a r ih=>simp only [List.cons_append,trNs,ih];omega
theorem OD (t:Tr):trN t=trNs (ZH t)+1:=by
 cases t;simp only [trN,ZH,H5,ED];omega
theorem Rx (t:Tr):1≤trN t:=by rw [OD];omega
theorem H3 {l:List Tr}{x:Tr}(h:x∈l):trN x≤trNs l:=by
 induction l with
 | nil=>cases h
 | cons a r ih =>
   simp only [trNs]
   rcases List.mem_cons.1 h with rfl | h
   ·omega
   ·have:=ih h;omega
theorem H4 (l:List Tr):l.length≤trNs l:=by
 induction l with
 | nil=>simp [trNs]
 | cons a r ih=>have:=Rx a;simp only [trNs,List.length_cons];omega
theorem Yj {t x:Tr}(h:x∈ZH t):trN x<trN t:=by have:=H3 h;rw [OD t];omega
theorem WM (t:Tr):(ZH t).length<trN t:=by have:=H4 (ZH t);rw [OD t];omega
theorem Xa {M:Tr→Prop}(h:∀ t,(∀ x,trN x<trN t→M x)→M t)(t:Tr):M t:=by
 suffices H:∀ n,∀ t,trN t=n→M t from H _ t rfl
 intro n
 induction n using Nat.strongRecOn with
 | _ n ih=>intro t e;exact h t (fun x hx=>ih _ (by omega) x rfl)
mutual
def WD:Tr→Int→Int
 | .mk _ _ _ y c e,m=>OQ c m (Xr e m (Xr y m 1))
def Xr:List Tr→Int→Int→Int
 | [],_,n=>n
 | t::r,m,n=>if m<n then n else Xr r m (n+WD t (m-n))
def OQ:List Cs→Int→Int→Int
 | [],_,n=>n
 | c::r,m,n=>if m<n then n else OQ r m (n+BG c (m-n))
def BG:Cs→Int→Int
 | .mk _ t,m=>WD t m
end
theorem PZ (m:Int):∀ (c:List Cs) (n:Int),OQ c m n=Xr (c.map Cs.tree) m n
 | [],_=>rfl
 | .mk s t::r,n=>by simp only [OQ,BG,List.map_cons,Xr,Cs.tree,PZ m r]
theorem N4 {l:List Tr}{m n:Int}(h:m<n):Xr l m n=n:=by
 cases l with
 | nil=>rfl
 | cons a r=>simp only [Xr,if_pos h]
theorem LJ (l r:List Tr)(m n:Int):Xr (l++r) m n=Xr r m (Xr l m n):=by
 induction l generalizing n with
 | nil=>rfl
 | cons a q ih =>
   simp only [List.cons_append,Xr]
   split
   ·rename_i h;rw [N4 h]
   ·exact ih _
theorem N5 (t:Tr)(m:Int):WD t m=Xr (ZH t) m 1:=by
 cases t;simp only [WD,ZH,LJ,PZ]
theorem GE (t:Tr):∀ m:Int,0≤m→1≤WD t m∧WD t m≤m+1:=by
 refine Xa (M:=fun t=>∀ m:Int,0≤m→1≤WD t m∧WD t m≤m+1) (fun t ih m hm=>?_) t
 rw [N5]
 have:∀ (l:List Tr),(∀ x∈l,x∈ZH t)→∀ n:Int,1≤n→n≤m+1→n≤Xr l m n∧Xr l m n≤m+1:=by
  intro l
  induction l with
  | nil=>intro _ n h1 h2;exact ⟨Int.le_refl _,h2⟩
  | cons a r ihr =>
    intro hl n h1 h2
    simp only [Xr]
    split
    ·exact ⟨Int.le_refl _,h2⟩
    ·obtain ⟨b1,b2⟩:=ih a (Yj (hl a List.mem_cons_self)) (m-n) (by omega)
     obtain ⟨c1,c2⟩:=ihr (fun x hx=>hl x (List.mem_cons_of_mem _ hx)) (n+WD a (m-n)) (by omega) (by omega)
     exact ⟨by omega,c2⟩
 have h:=this _ (fun _ h=>h) 1 (by omega) (by omega)
 exact h
mutual
def Uw:Tr→Int→Int
 | .mk _ _ _ y c e,m=>(if 0<m then JE c m (X4 e m (X4 y m 0)) else 0)+1
def X4:List Tr→Int→Int→Int
 | [],_,n=>n
 | t::r,m,n=>X4 r m (max n (Uw t (m-1)))
def JE:List Cs→Int→Int→Int
 | [],_,n=>n
 | c::r,m,n=>JE r m (max n (aZ c (m-1)))
def aZ:Cs→Int→Int
 | .mk _ t,m=>Uw t m
end
theorem Mo (m:Int):∀ (c:List Cs) (n:Int),JE c m n=X4 (c.map Cs.tree) m n
 | [],_=>rfl
 | .mk s t::r,n=>by simp only [JE,aZ,List.map_cons,X4,Cs.tree,Mo m r]
theorem IL (l r:List Tr)(m n:Int):X4 (l++r) m n=X4 r m (X4 l m n):=by
 induction l generalizing n with
 | nil=>rfl
 | cons a q ih=>simp only [List.cons_append,X4];exact ih _
theorem O6 (t:Tr)(m:Int):Uw t m=(if 0<m then X4 (ZH t) m 0 else 0)+1:=by
 cases t;simp only [Uw,ZH,IL,Mo]
theorem Cj (t:Tr):∀ m:Int,1≤Uw t m∧Uw t m≤max m 0+1:=by
 refine Xa (M:=fun t=>∀ m:Int,1≤Uw t m∧Uw t m≤max m 0+1) (fun t ih m=>?_) t
 rw [O6]
 have:∀ (l:List Tr),(∀ x∈l,x∈ZH t)→∀ n:Int,0<m→0≤n→n≤m→0≤X4 l m n∧X4 l m n≤m:=by
  intro l
  induction l with
  | nil=>intro _ n h1 h2 h3;exact ⟨h2,h3⟩
  | cons a r ihr =>
    intro hl n h1 h2 h3
    simp only [X4]
    obtain ⟨b1,b2⟩:=ih a (Yj (hl a List.mem_cons_self)) (m-1)
    exact ihr (fun x hx=>hl x (List.mem_cons_of_mem _ hx)) _ h1 (by omega) (by omega)
 split
 ·have h:=this _ (fun _ h=>h) 0 (by assumption) (by omega) (by omega)
  omega
 ·omega
def TX {α:Type}(cmp:α→α→Int):List α→Bool
 | a::b::r=>decide (cmp a b<0)&&TX cmp (b::r)
 | _=>true
theorem UA {α:Type}{cmp:α→α→Int}:∀ (l:List α),TX cmp l=true↔∀ (i:Nat) (a b:α),l[i]?=some a→l[i+1]?=some b→cmp a b<0
 | []=>by simp [TX]
 | [a]=>by simp [TX]
 | a::b::r=>by
   simp only [TX,Bool.and_eq_true,decide_eq_true_eq,UA (b::r)]
   constructor
   ·rintro ⟨h1,h2⟩ i x y hx hy
    cases i with
    | zero=>simp at hx hy;subst hx;subst hy;exact h1
    | succ i=>exact h2 i x y (by simpa using hx) (by simpa using hy)
   ·intro h
    exact ⟨h 0 a b rfl rfl,fun i x y hx hy=>h (i+1) x y (by simpa using hx) (by simpa using hy)⟩
def CJ (a b:Cs):Int:=T6 a.name b.name
abbrev ML:=List (Int×AV×Nat)×Nat
def Ud (q:ML)(x:Int)(b:Bool):ML:=(VL q.1 x (vb b) q.2,Uh q.1 x q.2)
def Xv (q:ML)(x:Int):Bool:=match XU q.1 x with
 | some (.val (.bool b))=>b
 | _=>false
def WE (q:ML):Prop:=∀ x v,XU q.1 x=some v→∃ b,v=vb b
def WZ (n:Int)(p:List Pick)(a:Int)(y:List Tr)(c:List Cs)(e:List Tr)(q:ML):Bool :=
 decide (a<0) || decide (n≤a) || Xv q a || decide (y.length≠1) || decide (e.length≠1) || decide (c.length=0) || decide (0<p.length)
def Q0:List Cs→Bool
 | []=>true
 | c::r=>decide (c.name=ZS) || !TX CJ (c::r)
mutual
def frm (n:Int):Tr→ML→Bool×ML
 | .mk k p a y c e,q =>
   if k=1 then (decide (a=0)&&decide ((ZH (.mk k p a y c e)).length=0)&&TX U2 p,q)
   else if k=2 then
    if WZ n p a y c e q || Q0 c then (false,q)
    else
     let r:=JQ n c (Z3 n e (Z3 n y (true,Ud q a true)))
     (r.1,Ud r.2 a false)
   else (false,q)
def Z3 (n:Int):List Tr→Bool×ML→Bool×ML
 | [],q=>q
 | t::r,q=>if q.1 then Z3 n r (frm n t q.2) else q
def JQ (n:Int):List Cs→Bool×ML→Bool×ML
 | [],q=>q
 | c::r,q=>if q.1 then JQ n r (bi n c q.2) else q
def bi (n:Int):Cs→ML→Bool×ML
 | .mk _ t,q=>frm n t q
end
theorem QK (n:Int):∀ (c:List Cs) (q:Bool×ML),JQ n c q=Z3 n (c.map Cs.tree) q
 | [],_=>rfl
 | .mk s t::r,q=>by simp only [JQ,bi,List.map_cons,Z3,Cs.tree,QK n r]
theorem QH {n:Int}{l:List Tr}{q:Bool×ML}(h:q.1=false):Z3 n l q=q:=by
 cases l with
 | nil=>rfl
 | cons a r=>simp only [Z3,h,Bool.false_eq_true,if_false]
theorem UR (n:Int)(l r:List Tr)(q:Bool×ML):Z3 n (l++r) q=Z3 n r (Z3 n l q):=by
 induction l generalizing q with
 | nil=>rfl
 | cons a m ih =>
   simp only [List.cons_append,Z3]
   split
   ·exact ih _
   ·rename_i h;rw [QH (by simpa using h)]
theorem JO (n:Int)(p:List Pick)(a:Int)(y:List Tr)(c:List Cs)(e:List Tr)(q:ML):frm n (.mk 2 p a y c e) q=if WZ n p a y c e q || Q0 c then (false,q) else ((Z3 n (y++e++c.map Cs.tree) (true,Ud q a true)).1,Ud (Z3 n (y++e++c.map Cs.tree) (true,Ud q a true)).2 a false):=by
 simp only [frm,UR,QK]
 rw [if_neg (by decide),if_pos trivial]
def YT (r:Row)(a:Int):Cls:=r.classes.getD a.toNat XB
def YM (a:Int)(r:Row):Row:=⟨r.pick,r.classes.set a.toNat XB⟩
def ofS (l:List Row)(a:Int)(c:Cls):List Row:=(l.filter fun r=>YD (YT r a) c).map (YM a)
mutual
def YG:Tr→List Row→Bool
 | .mk k p a y c e,l=>if k=1 then decide (p=l.map Row.pick)&&l.all (fun r=>r.classes.all Cls.any)
   else (YN l a.toNat).all (fun s=>decide (s∈c.map Cs.name))&&Rz y (ofS l a XB)&&Rz e (ofS l a ⟨false,ZS⟩)&&WH a l c
def Rz:List Tr→List Row→Bool
 | [],_=>true
 | t::_,l=>YG t l
def WH (a:Int)(l:List Row):List Cs→Bool
 | []=>true
 | c::r=>LO a l c&&WH a l r
def LO (a:Int)(l:List Row):Cs→Bool
 | .mk s t=>YG t (ofS l a ⟨false,s⟩)
end
mutual
def TI:Tr→List Tm→List Pick
 | .mk k p a y c e,args=>if k=2 then
  (match args[a.toNat]? with
  | some t=>if (Tt t).any then GJ y args else SW (Tt t).name args (GJ e args) c
  | none=>[])
   else p
def GJ:List Tr→List Tm→List Pick
 | [],_=>[]
 | t::_,args=>TI t args
def SW (s:Str)(args:List Tm)(d:List Pick):List Cs→List Pick
 | []=>d
 | c::r=>if c.name=s then bR args c else SW s args d r
def bR (args:List Tm):Cs→List Pick
 | .mk _ t=>TI t args
end
def XH (B:List Row→Int→Option (Tr×Int))(l:List Row)(a:Int):List Str→Int→Option (List Cs×Int)
 | [],n=>some ([],n)
 | s::r,n=>match B (l.filter fun x=>YD (YT x a) ⟨false,s⟩) n with
   | none=>none
   | some (t,n1)=>match XH B l a r n1 with
     | none=>none
     | some (cs,n2)=>some (.mk s t::cs,n2)
def Ut (B:List Row→Int→Option (Tr×Int))(l:List Row)(a:Int)(ns:List Str)(left:Int):Option (Tr×Int) :=
 match B (l.filter fun x=>YD (YT x a) XB) left with
 | none=>none
 | some (tA,n1)=>match XH B l a ns n1 with
   | none=>none
   | some (cs,n2)=>match B (l.filter fun x=>YD (YT x a) ⟨false,ZS⟩) n2 with
     | none=>none
     | some (tE,n3)=>some (.mk 2 [] a [tA] cs [tE],n3)
def Ww (n:Nat):Nat→List Row→Int→Option (Tr×Int)
 | 0,l,left=>some (.mk 1 (l.map Row.pick) 0 [] [] [],left)
 | k+1,l,left=>if YN l (n-(k+1))=[] then Ww n k l left
   else Ut (fun l left=>if left-1<0 then none else Ww n k l (left-1)) l ((n-(k+1):Nat):Int) (YN l (n-(k+1))) left
def Tu (n k:Nat)(l:List Row)(left:Int):Option (Tr×Int):=if left-1<0 then none else Ww n k l (left-1)
def YK (f:Flat)(pred:Str):Tr×Int :=
 if (Z1 f pred).2.2≠0 then (.mk 0 [] 0 [] [] [],(Z1 f pred).2.2)
 else match Tu (Z1 f pred).2.1 (Z1 f pred).2.1 (Z1 f pred).1 4000 with
  | none=>(.mk 0 [] 0 [] [] [],2)
  | some (t,_)=>(t,0)
def Xe (t:Tr)(n:Int):Bool:=decide (WD t 4000≤4000)&&(frm n t ([],0)).1
def UF (f:Flat)(pred:Str)(t:Tr):Int :=
 if (Z1 f pred).2.2≠0 then (Z1 f pred).2.2
 else if Xe t ((Z1 f pred).2.1:Nat)&&YG t (Z1 f pred).1 then 0 else 230
def N9 (l:List Tm):Bool:=l.all fun t=>decide (Ur t=0)
def VP (t:Tr)(args:List Tm):List Pick×Int :=
 if 8<args.length∨N9 args=false then ([],1)
 else if Xe t (args.length:Nat)=false then ([],230)
 else (TI t args,0)
end Go.Vx
end
