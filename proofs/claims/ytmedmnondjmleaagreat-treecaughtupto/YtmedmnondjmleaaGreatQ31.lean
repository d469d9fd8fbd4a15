/- Part Q31 of the proof of treeCaughtProved: the walk of the program on abstract values, and the plain law. -/
import Derived.Test.YtmedmnondjmleaaGreatQ30
import Derived.Test.YtmedmnondjmleaaGreatQGrowLay
import Derived.Shelf.Spec.SlicesGrow
set_option linter.unusedVariables false
set_option linter.unusedSimpArgs false
section
set_option maxRecDepth 100000
namespace Go.Vx
open Go.Proofs Go.Shelf Go.RowKit
theorem tb123:(elOf Tryz.prog 212=some 27)∧(szOf Tryz.prog 27=some 1)∧(aggOf Tryz.prog 27=some false)∧((Tryz.prog.underlying 9).isSome=true)∧(isIfaceB (Tryz.prog.underlying 9)=false)∧(Tryz.prog.underlying 212=some (.slice 27))∧(Tryz.prog.underlying 27=some (.slice 30))∧(elOf Tryz.prog 27=some 30)∧(szOf Tryz.prog 30=some 6)∧(zeroOf Tryz.prog 30=some (.agg #[(.int .i64 0),(.slice none 0 0),(.int .i64 0),(.slice none 0 0),(.slice none 0 0),(.slice none 0 0)]))∧(bytesOf Tryz.prog 30=some 112):=by
  refine ⟨?_,?_,?_,?_,?_,?_,?_,?_,?_,?_,?_⟩<;>first | trivial | kernel_rfl
theorem grow_nil {P:Program}{ρ:Ren}(L:Lays8.n4 P ρ)(i0:TypeInfo)(z:Value)(hi0:P.info? (ρ.t 25)=some i0)(hz0:i0.zero=some z)(hs0:0<i0.size)(hzs:z.cells.size=i0.size)(hb:i0.bytes≤512)(hent:entersB P (ρ.f 4)=true)(n:Nat)(hn:n≤137438953472)(σ:Store)(s:Nat) :
    ACalls P (ρ.f 4) [.list .full s [],vi n] σ (fun r σ'=>∃ v,r=.ret v∧MW σ i0.size σ' v []∧Has σ σ'):=by
  refine ⟨hent,fun w vs hσ hv=>?_⟩
  obtain ⟨hl2,hvv⟩:=hv
  obtain ⟨v0,v1,rfl⟩:∃ v0 v1,vs=#[v0,v1]:=by
    obtain ⟨vl⟩:=vs
    match vl,hl2 with
    | [x,y],_=>exact ⟨x,y,rfl⟩
  have hv0:=hvv 0 _ v0 rfl rfl
  have hv1:=hvv 1 _ v1 rfl rfl
  have hv0':=hv0
  cases hv1
  cases hv0 with
  | list _ _ _ cap a b' o rd hcap hlim hsz ha hr h1 h2 =>
  have hcap0:cap=0:=by simpa [RtOk] using hr
  subst hcap0
  by_cases h0:n=0
  · subst h0
    have hcon:=Any8.slices_Grow_room L a 0 0 0 w (by omega) (by omega) (by omega) (by omega)
    refine Calls.mono hcon fun en w' he=>?_
    obtain ⟨rfl,rfl⟩:=he
    exact ⟨.list .full s [],σ,⟨_,rfl,.inl ⟨rfl,s,rfl⟩,.refl _⟩,hv0',hσ,.refl _ _⟩
  · have hcon:=Any8.slices_Grow_grow L i0 z hi0 hz0 hs0 a 0 0 n [] w (by omega) (by omega)
      (by have:(0+n) * i0.bytes≤137438953472 * 512:=Nat.mul_le_mul (by omega) hb
          omega) (by omega) (by simp) (fun _=>rfl) (fun _ _ j v h=>by simp at h)
    refine Calls.mono hcon fun en w' he=>?_
    obtain ⟨rfl,rfl⟩:=he
    obtain ⟨G,hG⟩:∃ G,G=grownCap w (0+n) 0 (ρ.t 25):=⟨_,rfl⟩
    have hGn:n≤G:=by rw [hG];have:=grownCap_ge w (0+n) 0 (ρ.t 25);omega
    rw [← hG]
    obtain ⟨xs,hxs⟩:∃ xs:List Value,xs=(Builtin.zeroCells z.cells (0+n-0)).toList++(Builtin.zeroCells z.cells (G-(0+n))).toList:=⟨_,rfl⟩
    have hxl:xs.length=G * i0.size:=by
      rw [hxs,List.length_append,zeroCells_len,zeroCells_len,hzs,← Nat.add_mul];congr 1;omega
    have hcs:(([]:List Value).toArray++Builtin.zeroCells z.cells (0+n-0)++Builtin.zeroCells z.cells (G-(0+n)))=xs.toArray:=by
      rw [hxs];apply Array.toList_inj.1;simp
    rw [hcs]
    have e1:=Ev.drew σ w
    have hz2:=CV.zeros (live σ) w xs
    have ho:=hσ.drew
    have e2:=Ev.alloc ho (.cells xs.toArray (ρ.t 25)) (.cells (xs.map AV.lift1))
    have ok:=ho.alloc (.cells xs.toArray (ρ.t 25)) (.cells (xs.map AV.lift1)) (ObjOk.cells_new (ρ.t 25) hz2.1 (fun i c x hc hx=>((hz2.2 i c x hc hx).ev e1).ev e2))
    refine ⟨.val (.slice (some ⟨w.heap.size,0,none⟩) 0 G),(w.heap.size,.cells (xs.map AV.lift1))::σ,⟨_,rfl,.inr ⟨w.heap.size,G,xs.map AV.lift1,rfl,by rw [get_same];rfl,by simp [hxl],by omega,hσ.fresh (Nat.le_refl _)⟩,(Has.refl σ).cons _⟩,.val _,ok,e1.trans e2⟩
theorem growT_c (n:Nat)(hn:n≤137438953472)(σ:Store)(s:Nat):ACalls Tryz.prog 153 [.list .full s [],vi n] σ (fun r σ'=>∃ v,r=.ret v∧MW σ 6 σ' v []∧Has σ σ'):=by
  obtain ⟨i0,hi0,z0,hz0,h1,h2,h3⟩:∃ i0,Tryz.prog.info? 30=some i0∧∃ z,i0.zero=some z∧i0.size=6∧z.cells.size=6∧i0.bytes≤512:=by
    have hk:((Tryz.prog.info? 30).bind fun i=>i.zero.map fun z=>(i.size,z.cells.size,decide (i.bytes≤512)))=some (6,6,true):=by kernel_rfl
    cases hi:Tryz.prog.info? 30 with
    | none=>rw [hi] at hk;cases hk
    | some i =>
      rw [hi] at hk
      simp only [Option.bind_some] at hk
      cases hz:i.zero with
      | none=>rw [hz] at hk;cases hk
      | some z =>
        rw [hz] at hk
        simp only [Option.map_some,Option.some.injEq,Prod.mk.injEq,decide_eq_true_eq] at hk
        exact ⟨i,rfl,z,hz,hk⟩
  have h:=grow_nil Tryz.growTrees i0 z0 hi0 hz0 (by omega) (by omega) h3 (by kernel_rfl) n hn σ s
  rw [h1] at h
  exact h
end Go.Vx
end
section
set_option maxRecDepth 100000
namespace Go.Vx
open Go.Proofs
theorem tb53:(elOf Tryz.prog 99=some 110)∧(szOf Tryz.prog 110=some 3)∧(aggOf Tryz.prog 110=some true)∧(zeroOf Tryz.prog 110=some (.agg #[(.int .i64 0),(.int .i64 0),(.slice none 0 0)]))∧(fOff Tryz.prog 110 1=some 2)∧(szOf Tryz.prog 108=some 1)∧(aggOf Tryz.prog 108=some false)∧(elOf Tryz.prog 108=some 107)∧(szOf Tryz.prog 107=some 2)∧(aggOf Tryz.prog 107=some true)∧(Tryz.prog.underlying 158=some (.map 107 4))∧(zeroOf Tryz.prog 4=some (.bool false))∧(zeroOf Tryz.prog 107=some (.agg #[(.bool false),(.string ⟨#[]⟩)]))∧(plsOf Tryz.prog 107=some [(0,1),(1,1)])∧(eqT Tryz.prog 107=some [1,2])∧(fOff Tryz.prog 107 1=some 1)∧(szOf Tryz.prog 9=some 1)∧(aggOf Tryz.prog 9=some false)∧(Tryz.prog.underlying 159=some (.map 9 4))∧(Tryz.prog.underlying 9=some .string)∧(Tryz.prog.underlying 99=some (.slice 110)):=by
  refine ⟨?_,?_,?_,?_,?_,?_,?_,?_,?_,?_,?_,?_,?_,?_,?_,?_,?_,?_,?_,?_,?_⟩<;>first | trivial | kernel_rfl
def addG {κ:Type}[DecidableEq κ](acc:List κ)(n:κ):List κ:=if n∈acc then acc else acc++[n]
def dd {κ:Type}[DecidableEq κ](l:List κ):List κ:=l.foldl addG []
theorem mem_addG {κ:Type}[DecidableEq κ]{acc:List κ}{n y:κ}:y∈addG acc n↔y=n∨y∈acc:=by
  unfold addG;split
  · rename_i h;exact ⟨.inr,fun k=>k.elim (fun e=>e ▸ h) id⟩
  · simp [or_comm]
theorem addG_nodup {κ:Type}[DecidableEq κ]{acc:List κ}{n:κ}(h:acc.Nodup):(addG acc n).Nodup:=by
  unfold addG;split
  · exact h
  · rename_i hn;rw [List.nodup_append];exact ⟨h,by simp,fun a ha b hb e=>by simp at hb;subst hb;subst e;exact hn ha⟩
theorem addG_len {κ:Type}[DecidableEq κ](acc:List κ)(n:κ):(addG acc n).length≤acc.length+1:=by unfold addG;split<;>simp
theorem dd_snoc {κ:Type}[DecidableEq κ](l:List κ)(x:κ):dd (l++[x])=addG (dd l) x:=by simp [dd,List.foldl_append]
theorem snoc_ind {κ:Type}{M:List κ→Prop}(h0:M [])(h:∀ r x,M r→M (r++[x]))(l:List κ):M l:=by
  rw [← List.reverse_reverse l]
  induction l.reverse with
  | nil=>exact h0
  | cons x r ih=>rw [List.reverse_cons];exact h _ _ ih
theorem dd_mem {κ:Type}[DecidableEq κ](l:List κ)(y:κ):y∈dd l↔y∈l:=by
  induction l using snoc_ind with
  | h0=>first | exact List.nodup_nil | simp [dd]
  | h r x ih=>rw [dd_snoc,mem_addG,ih];simp [or_comm]
theorem dd_nodup {κ:Type}[DecidableEq κ](l:List κ):(dd l).Nodup:=by
  induction l using snoc_ind with
  | h0=>first | exact List.nodup_nil | simp [dd]
  | h r x ih=>rw [dd_snoc];exact addG_nodup ih
theorem dd_len {κ:Type}[DecidableEq κ](l:List κ):(dd l).length≤l.length:=by
  induction l using snoc_ind with
  | h0=>first | exact List.nodup_nil | simp [dd]
  | h r x ih=>rw [dd_snoc,List.length_append,List.length_singleton];have:=addG_len (dd r) x;omega
theorem mapG_keys {κ:Type}(acc:List κ):(mapG acc).map (·.1)=acc:=by
  unfold mapG
  rw [List.map_map]
  apply List.ext_getElem?
  intro i
  simp [List.getElem?_zipIdx,Function.comp_def]
theorem mapG_add {κ:Type}[DecidableEq κ](acc:List κ)(n:κ):updL (mapG acc) n (vb true) acc.length=mapG (addG acc n)∧updC (mapG acc) n acc.length=(addG acc n).length:=by
  unfold updL updC addG
  rw [mapG_keys]
  by_cases h:n∈acc
  · rw [if_pos h,if_pos h,if_pos h]
    refine ⟨?_,rfl⟩
    have:∀ e∈mapG acc,(if e.1=n then (n,vb true,e.2.2) else e)=e:=by
      intro e he
      unfold mapG at he
      obtain ⟨p,_,rfl⟩:=List.mem_map.1 he
      split
      · rename_i h;simp only at h;rw [h]
      · rfl
    calc _=(mapG acc).map id:=List.map_congr_left this
      _=_:=by simp
  · rw [if_neg h,if_neg h,if_neg h]
    refine ⟨?_,by simp⟩
    simp [mapG,List.zipIdx_append]
def anyC:Cls:=⟨true,emptyS⟩
def clsAt (l:List Row)(arg:Nat):List Cls:=l.map fun r=>r.classes.getD arg anyC
def namesS (l:List Row)(arg:Nat):List Str:=sortS (dd (((clsAt l arg).filter fun c=>!decide (c=anyC)).map Cls.name))
theorem namesAt_c (l:List Row)(arg:Nat)(hlen:l.length≤137438953472)(hc:∀ r∈l,arg<r.classes.length)(rt:Rt)(sz:Nat)(hs:sz=3∨l=[]):Pur Tryz.prog 53 [.list rt sz (Row.embs l),vi (arg:Int)] (.list .none 1 (strs (namesS l arg))):=by
  intro σ
  refine ACalls.nodup (by kernel_rfl) (fun hnd=>?_)
  have hw:∀ j:Nat,j≤137438953472→IntKind.i64.wrap ((j:Int)+1)=((j+1:Nat):Int):=fun j hj=>wrap64 (by omega) (by omega)
  refine acalls_of [] [] Tryz.func53 rfl (by kernel_rfl) ?_;rw [Tryz.ntmps53,Tryz.results53]
  try simp only [go_sem,seval,tb53]
  intro r5 h5
  try simp only [go_sem,seval,tb53,Row.embs_len]
  refine aloopT (mu:=[]) (dr:=[]) [7,13,14,15,16,17,18,19,20,21,22,23] (fun i:Nat=>[(13,vi i)]) (fun i=>(r5,.map (embM keC (mapG (dd (clsAt (l.take i) arg)))) (dd (clsAt (l.take i) arg)).length)::σ) (fun i=>i≤l.length) (fun i=>l.length-i) 0 (by kernel_rfl) (by omega) ⟨.refl _,trivial⟩ (.refl _) ?_
  rintro i hi
  try simp only [go_sem,seval,tb53,Row.embs_len]
  refine ⟨fun h1=>⟨?_,by omega,h1,fun c hcc=>?_⟩,fun h1=>?_⟩
  · rcases hs with hs | hs
    · rw [hs]
    · rw [hs] at h1;simp at h1;omega
  · rw [Int.toNat_natCast] at hcc
    obtain ⟨r,hr,rfl⟩:=Row.embs_get hcc
    have hra:=hc r (List.mem_of_getElem? hr)
    try simp only [go_sem,seval,tb53,Row.emb]
    intro b7 hb7
    try simp only [go_sem,seval,tb53,Cls.embs_len]
    refine ⟨by omega,by omega,fun c hcc=>?_⟩
    rw [Int.toNat_natCast] at hcc
    obtain ⟨k,hk,rfl⟩:=Cls.embs_get hcc
    have hn:=dd_snoc (clsAt (l.take i) arg) k
    have hcl:clsAt (l.take (i+1)) arg=clsAt (l.take i) arg++[k]:=by
      unfold clsAt;rw [List.take_add_one,hr,Option.toList_some,List.map_append]
      simp [List.getD_eq_getElem?_getD,hk]
    rw [← hcl] at hn
    try simp only [go_sem,seval,tb53,Cls.emb]
    have g5:Store.get ((b7,AObj.cells [vi r.pick.rule,vi r.pick.alt,.list .none 2 (Cls.embs r.classes)])::(r5,.map (embM keC (mapG (dd (clsAt (l.take i) arg)))) (dd (clsAt (l.take i) arg)).length)::σ) r5=some (.map (embM keC (mapG (dd (clsAt (l.take i) arg)))) (dd (clsAt (l.take i) arg)).length):=by rw [get_other (Ne.symm hb7.1),get_same]
    refine amapUpd_cls tb53.2.2.2.2.2.2.2.2.2.2.1 tb53.2.2.2.2.2.2.2.2.2.2.2.2.2.2.1 (toVal_cls k.any k.name) g5 ?_
    obtain ⟨u1,u2⟩:=mapG_add (dd (clsAt (l.take i) arg)) k
    rw [show (⟨k.any,k.name⟩:Cls)=k from rfl,u1,u2,← hn,set_other (Ne.symm hb7.1),set_same]
    try simp only [go_sem,seval,tb53]
    rw [hw i (by omega)]
    exact .mk (i+1) (by omega) (by omega) ⟨.refl _,trivial⟩ (by repeat first | exact Keeps.turn _ rfl | refine Keeps.put rfl ?_) ((Sub.refl _).skip _)
  · have hil:l.take i=l:=List.take_of_length_le (by omega)
    rw [hil]
    try simp only [go_sem,seval,tb53]
    intro r8 h8
    have n58:r8≠r5:=Ne.symm h8.1
    obtain ⟨C,hC⟩:∃ C,C=dd (clsAt l arg):=⟨_,rfl⟩
    rw [← hC]
    refine ⟨r5,C.length,_,_,_,tb53.2.2.2.2.2.2.2.2.2.2.1,rfl,by rw [get_other n58,get_same],fun b26 hb26=>?_⟩
    try simp only [go_sem,seval,tb53]
    have n268:b26≠r8:=Ne.symm hb26.1
    have n265:b26≠r5:=Ne.symm hb26.2.1
    refine aloopT (mu:=[]) (dr:=[]) [9,27,28,29,30,31,32,33,34,35,36] (fun _:List Nat×List Str=>[]) (fun x=>(b26,.iter (some r5) C.length x.1 C.length)::(r8,.map (embM keS (mapG x.2)) x.2.length)::(r5,.map (embM keC (mapG C)) C.length)::σ)
      (fun x=>x.2.Nodup∧(∀ s,s∈x.2→∃ c∈C,c≠anyC∧c.name=s)∧(∀ i,i∈x.1→∀ c,C[i]?=some c→c≠anyC→c.name∈x.2)∧x.2.length≤x.1.length∧x.1.length+((List.range C.length).filter (fun j=>decide (j ∉ x.1))).length≤C.length) (fun x=>((List.range C.length).filter (fun j=>decide (j ∉ x.1))).length) ([],[]) (by kernel_rfl) ⟨List.nodup_nil,by simp,by simp,by simp,by simp only [List.length_nil,Nat.zero_add];exact Nat.le_trans (List.length_filter_le _ _) (by simp)⟩ trivial (.refl _) ?_
    rintro ⟨seen,done⟩ ⟨j1,j2,j3,j4,j5⟩
    simp only at j1 j2 j3 j4 j5
    have gr5:∀ sn,Store.get ((b26,.iter (some r5) C.length sn C.length)::(r8,.map (embM keS (mapG done)) done.length)::(r5,.map (embM keC (mapG C)) C.length)::σ) r5=some (.map (embM keC (mapG C)) C.length):=fun sn=>by rw [get_other n265,get_other n58,get_same]
    try simp only [go_sem,seval,tb53]
    refine ⟨b26,r5,C.length,embM keC (mapG C),seen,rfl,get_same _ _ _,gr5 _,fun hall=>?_,fun e he hne=>?_⟩
    · try simp only [go_sem,seval,tb53]
      have hCl:C.length≤l.length:=by rw [hC];exact Nat.le_trans (dd_len _) (by simp [clsAt])
      refine (sortedKeys_str done (by omega) _ r8 (by rw [get_other n268,get_same])).only ?_
      try simp only [go_sem,seval,tb53]
      have hp:done.Perm (dd (((clsAt l arg).filter fun c=>!decide (c=anyC)).map Cls.name)):=by
        refine (List.perm_ext_iff_of_nodup j1 (dd_nodup _)).2 (fun s=>?_)
        rw [dd_mem,List.mem_map]
        constructor
        · intro hs
          obtain ⟨c,hc1,hc2,hc3⟩:=j2 s hs
          rw [hC,dd_mem] at hc1
          exact ⟨c,List.mem_filter.2 ⟨hc1,by simp [hc2]⟩,hc3⟩
        · rintro ⟨c,hc1,rfl⟩
          obtain ⟨hc1,hc2⟩:=List.mem_filter.1 hc1
          have hm:c∈C:=by rw [hC,dd_mem];exact hc1
          obtain ⟨i,hi,rfl⟩:=List.getElem_of_mem hm
          exact j3 i (hall _ (mapG_mem.2 ⟨i,C[i],List.getElem?_eq_getElem hi,rfl⟩)) _ (List.getElem?_eq_getElem hi) (by simpa using hc2)
      have:sortS done=namesS l arg:=sortB_eq swo_str ltS_anti ((sortB_perm _ _).trans hp) (sortB_sorted swo_str _)
      rw [this]
      exact fin_pur (.refl _) ((((Sub.refl σ).skip _).skip _).skip _)
    · obtain ⟨i,c,hci,rfl⟩:=mapG_mem.1 he
      simp only [set_same]
      try simp only [go_sem,seval,tb53]
      refine ⟨b26,r5,C.length,embM keC (mapG C),seen,(keC c,vb true,i),rfl,get_same _ _ _,gr5 _,mapG_mem.2 ⟨i,c,hci,rfl⟩,?_⟩
      try simp only [go_sem,seval,tb53,keC,encC]
      intro b9 hb9
      try simp only [go_sem,seval,tb53]
      have hil:=(List.getElem?_eq_some_iff.1 hci).1
      have hlt:=left_lt hil hne
      have hb:(decide (c.any=true)&&decide (c.name={ data:=#[] }))=decide (c=anyC):=by
        obtain ⟨a,s⟩:=c
        simp [anyC]
      rw [hb]
      by_cases hca:c=anyC
      · rw [decide_eq_true hca]
        try simp only [go_sem,seval,tb53]
        refine .mk (seen++[i],done) ⟨j1,j2,fun k hk c' hc' hn'=>?_,by simp only [List.length_append];omega,by simp only [List.length_append,List.length_singleton];omega⟩ hlt trivial (by repeat first | exact Keeps.turn _ rfl | refine Keeps.put rfl ?_) ((Sub.refl _).skip _)
        rcases List.mem_append.1 hk with h | h
        · exact j3 k h c' hc' hn'
        · simp at h;subst h;rw [hci] at hc';injection hc' with hc';exact absurd (hc' ▸ hca) hn'
      · rw [decide_eq_false hca]
        try simp only [go_sem,seval,tb53]
        have n98:b9≠r8:=Ne.symm hb9.2.1
        refine amapUpd_str (l:=mapG done) (c:=done.length) tb53.2.2.2.2.2.2.2.2.2.2.2.2.2.2.2.2.2.2.1 tb53.2.2.2.2.2.2.2.2.2.2.2.2.2.2.2.2.2.2.2.1 (by rw [get_other n98,get_other n268,get_same]) ?_
        obtain ⟨u1,u2⟩:=mapG_add done c.name
        rw [u1,u2,set_other n98,set_other n268,set_same]
        try simp only [go_sem,seval,tb53]
        refine .mk (seen++[i],addG done c.name) ⟨addG_nodup j1,fun s hs=>?_,fun k hk c' hc' hn'=>?_,?_,by simp only [List.length_append,List.length_singleton];omega⟩ hlt trivial (by repeat first | exact Keeps.turn _ rfl | refine Keeps.put rfl ?_) ((Sub.refl _).skip _)
        · rcases mem_addG.1 hs with rfl | h
          · exact ⟨c,List.mem_of_getElem? hci,hca,rfl⟩
          · exact j2 s h
        · rcases List.mem_append.1 hk with h | h
          · exact mem_addG.2 (.inr (j3 k h c' hc' hn'))
          · simp at h;subst h;rw [hci] at hc';injection hc' with hc';exact mem_addG.2 (.inl (by rw [hc']))
        · have:=addG_len done c.name
          simp only [List.length_append,List.length_singleton];omega
end Go.Vx
end
section
set_option maxRecDepth 100000
namespace Go.Vx
open Go.Proofs
def partsT:Tr→List Tr
  | .mk _ _ _ y c e=>y++e++c.map Cs.tree
def Tr.kind:Tr→Int
  | .mk k _ _ _ _ _=>k
mutual
def trN:Tr→Nat
  | .mk _ _ _ y c e=>trNs y+csN c+trNs e+1
def trNs:List Tr→Nat
  | []=>0
  | t::r=>trN t+trNs r
def csN:List Cs→Nat
  | []=>0
  | c::r=>cs1N c+csN r
def cs1N:Cs→Nat
  | .mk _ t=>trN t
end
theorem csN_eq:∀ c:List Cs,csN c=trNs (c.map Cs.tree)
  | []=>rfl
  | .mk s t::r=>by simp only [csN,cs1N,List.map_cons,trNs,Cs.tree,csN_eq r]
theorem trNs_app (l m:List Tr):trNs (l++m)=trNs l+trNs m:=by
  induction l with
  | nil=>simp [trNs]
  | cons a r ih=>simp only [List.cons_append,trNs,ih];omega
theorem trN_eq (t:Tr):trN t=trNs (partsT t)+1:=by
  cases t;simp only [trN,partsT,trNs_app,csN_eq];omega
theorem trN_pos (t:Tr):1≤trN t:=by rw [trN_eq];omega
theorem trNs_mem {l:List Tr}{x:Tr}(h:x∈l):trN x≤trNs l:=by
  induction l with
  | nil=>cases h
  | cons a r ih =>
    simp only [trNs]
    rcases List.mem_cons.1 h with rfl | h
    · omega
    · have:=ih h;omega
theorem trNs_len (l:List Tr):l.length≤trNs l:=by
  induction l with
  | nil=>simp [trNs]
  | cons a r ih=>have:=trN_pos a;simp only [trNs,List.length_cons];omega
theorem parts_lt {t x:Tr}(h:x∈partsT t):trN x<trN t:=by have:=trNs_mem h;rw [trN_eq t];omega
theorem parts_len (t:Tr):(partsT t).length<trN t:=by have:=trNs_len (partsT t);rw [trN_eq t];omega
theorem trN_ind {M:Tr→Prop}(h:∀ t,(∀ x,trN x<trN t→M x)→M t)(t:Tr):M t:=by
  suffices H:∀ n,∀ t,trN t=n→M t from H _ t rfl
  intro n
  induction n using Nat.strongRecOn with
  | _ n ih=>intro t e;exact h t (fun x hx=>ih _ (by omega) x rfl)
mutual
def sizeS:Tr→Int→Int
  | .mk _ _ _ y c e,m=>sizeCs c m (sizeTs e m (sizeTs y m 1))
def sizeTs:List Tr→Int→Int→Int
  | [],_,n=>n
  | t::r,m,n=>if m<n then n else sizeTs r m (n+sizeS t (m-n))
def sizeCs:List Cs→Int→Int→Int
  | [],_,n=>n
  | c::r,m,n=>if m<n then n else sizeCs r m (n+sizeC c (m-n))
def sizeC:Cs→Int→Int
  | .mk _ t,m=>sizeS t m
end
theorem sizeCs_eq (m:Int):∀ (c:List Cs) (n:Int),sizeCs c m n=sizeTs (c.map Cs.tree) m n
  | [],_=>rfl
  | .mk s t::r,n=>by simp only [sizeCs,sizeC,List.map_cons,sizeTs,Cs.tree,sizeCs_eq m r]
theorem sizeTs_over {l:List Tr}{m n:Int}(h:m<n):sizeTs l m n=n:=by
  cases l with
  | nil=>rfl
  | cons a r=>simp only [sizeTs,if_pos h]
theorem sizeTs_app (l r:List Tr)(m n:Int):sizeTs (l++r) m n=sizeTs r m (sizeTs l m n):=by
  induction l generalizing n with
  | nil=>rfl
  | cons a q ih =>
    simp only [List.cons_append,sizeTs]
    split
    · rename_i h;rw [sizeTs_over h]
    · exact ih _
theorem sizeS_eq (t:Tr)(m:Int):sizeS t m=sizeTs (partsT t) m 1:=by
  cases t;simp only [sizeS,partsT,sizeTs_app,sizeCs_eq]
theorem sizeS_bd (t:Tr):∀ m:Int,0≤m→1≤sizeS t m∧sizeS t m≤m+1:=by
  refine trN_ind (M:=fun t=>∀ m:Int,0≤m→1≤sizeS t m∧sizeS t m≤m+1) (fun t ih m hm=>?_) t
  rw [sizeS_eq]
  have:∀ (l:List Tr),(∀ x∈l,x∈partsT t)→∀ n:Int,1≤n→n≤m+1→n≤sizeTs l m n∧sizeTs l m n≤m+1:=by
    intro l
    induction l with
    | nil=>intro _ n h1 h2;exact ⟨Int.le_refl _,h2⟩
    | cons a r ihr =>
      intro hl n h1 h2
      simp only [sizeTs]
      split
      · exact ⟨Int.le_refl _,h2⟩
      · obtain ⟨b1,b2⟩:=ih a (parts_lt (hl a List.mem_cons_self)) (m-n) (by omega)
        obtain ⟨c1,c2⟩:=ihr (fun x hx=>hl x (List.mem_cons_of_mem _ hx)) (n+sizeS a (m-n)) (by omega) (by omega)
        exact ⟨by omega,c2⟩
  have h:=this _ (fun _ h=>h) 1 (by omega) (by omega)
  exact h
mutual
def levS:Tr→Int→Int
  | .mk _ _ _ y c e,m=>(if 0<m then levCs c m (levTs e m (levTs y m 0)) else 0)+1
def levTs:List Tr→Int→Int→Int
  | [],_,n=>n
  | t::r,m,n=>levTs r m (max n (levS t (m-1)))
def levCs:List Cs→Int→Int→Int
  | [],_,n=>n
  | c::r,m,n=>levCs r m (max n (levC c (m-1)))
def levC:Cs→Int→Int
  | .mk _ t,m=>levS t m
end
def incB {α:Type}(cmp:α→α→Int):List α→Bool
  | a::b::r=>decide (cmp a b<0)&&incB cmp (b::r)
  | _=>true
theorem incB_get {α:Type}{cmp:α→α→Int}:∀ (l:List α),incB cmp l=true↔∀ (i:Nat) (a b:α),l[i]?=some a→l[i+1]?=some b→cmp a b<0
  | []=>by simp [incB]
  | [a]=>by simp [incB]
  | a::b::r=>by
    simp only [incB,Bool.and_eq_true,decide_eq_true_eq,incB_get (b::r)]
    constructor
    · rintro ⟨h1,h2⟩ i x y hx hy
      cases i with
      | zero=>simp at hx hy;subst hx;subst hy;exact h1
      | succ i=>exact h2 i x y (by simpa using hx) (by simpa using hy)
    · intro h
      exact ⟨h 0 a b rfl rfl,fun i x y hx hy=>h (i+1) x y (by simpa using hx) (by simpa using hy)⟩
def cmpC (a b:Cs):Int:=cmpS a.name b.name
abbrev ML:=List (Int×AV×Nat)×Nat
def putB (q:ML)(x:Int)(b:Bool):ML:=(updL q.1 x (vb b) q.2,updC q.1 x q.2)
def seenB (q:ML)(x:Int):Bool:=match lookL q.1 x with
  | some (.val (.bool b))=>b
  | _=>false
def BoolM (q:ML):Prop:=∀ x v,lookL q.1 x=some v→∃ b,v=vb b
def badN (n:Int)(p:List Pick)(a:Int)(y:List Tr)(c:List Cs)(e:List Tr)(q:ML):Bool :=
  decide (a<0) || decide (n≤a) || seenB q a || decide (y.length≠1) || decide (e.length≠1) || decide (c.length=0) || decide (0<p.length)
def badC:List Cs→Bool
  | []=>true
  | c::r=>decide (c.name=emptyS) || !incB cmpC (c::r)
mutual
def frm (n:Int):Tr→ML→Bool×ML
  | .mk k p a y c e,q =>
    if k=1 then (decide (a=0)&&decide ((partsT (.mk k p a y c e)).length=0)&&incB cmpP p,q)
    else if k=2 then
      if badN n p a y c e q || badC c then (false,q)
      else
        let r:=frmCs n c (frmTs n e (frmTs n y (true,putB q a true)))
        (r.1,putB r.2 a false)
    else (false,q)
def frmTs (n:Int):List Tr→Bool×ML→Bool×ML
  | [],q=>q
  | t::r,q=>if q.1 then frmTs n r (frm n t q.2) else q
def frmCs (n:Int):List Cs→Bool×ML→Bool×ML
  | [],q=>q
  | c::r,q=>if q.1 then frmCs n r (frmC n c q.2) else q
def frmC (n:Int):Cs→ML→Bool×ML
  | .mk _ t,q=>frm n t q
end
theorem frmCs_eq (n:Int):∀ (c:List Cs) (q:Bool×ML),frmCs n c q=frmTs n (c.map Cs.tree) q
  | [],_=>rfl
  | .mk s t::r,q=>by simp only [frmCs,frmC,List.map_cons,frmTs,Cs.tree,frmCs_eq n r]
theorem frmTs_stop {n:Int}{l:List Tr}{q:Bool×ML}(h:q.1=false):frmTs n l q=q:=by
  cases l with
  | nil=>rfl
  | cons a r=>simp only [frmTs,h,Bool.false_eq_true,if_false]
theorem frmTs_app (n:Int)(l r:List Tr)(q:Bool×ML):frmTs n (l++r) q=frmTs n r (frmTs n l q):=by
  induction l generalizing q with
  | nil=>rfl
  | cons a m ih =>
    simp only [List.cons_append,frmTs]
    split
    · exact ih _
    · rename_i h;rw [frmTs_stop (by simpa using h)]
theorem frm_two (n:Int)(p:List Pick)(a:Int)(y:List Tr)(c:List Cs)(e:List Tr)(q:ML):frm n (.mk 2 p a y c e) q=if badN n p a y c e q || badC c then (false,q) else ((frmTs n (y++e++c.map Cs.tree) (true,putB q a true)).1,putB (frmTs n (y++e++c.map Cs.tree) (true,putB q a true)).2 a false):=by
  simp only [frm,frmTs_app,frmCs_eq]
  rw [if_neg (by decide),if_pos trivial]
def clsOf (r:Row)(a:Int):Cls:=r.classes.getD a.toNat anyC
def setAny (a:Int)(r:Row):Row:=⟨r.pick,r.classes.set a.toNat anyC⟩
def ofS (l:List Row)(a:Int)(c:Cls):List Row:=(l.filter fun r=>fitsB (clsOf r a) c).map (setAny a)
mutual
def rightS:Tr→List Row→Bool
  | .mk k p a y c e,l=>if k=1 then decide (p=l.map Row.pick)&&l.all (fun r=>r.classes.all Cls.any)
    else (namesS l a.toNat).all (fun s=>decide (s∈c.map Cs.name))&&rightHd y (ofS l a anyC)&&rightHd e (ofS l a ⟨false,emptyS⟩)&&rightCs a l c
def rightHd:List Tr→List Row→Bool
  | [],_=>true
  | t::_,l=>rightS t l
def rightCs (a:Int)(l:List Row):List Cs→Bool
  | []=>true
  | c::r=>rightC a l c&&rightCs a l r
def rightC (a:Int)(l:List Row):Cs→Bool
  | .mk s t=>rightS t (ofS l a ⟨false,s⟩)
end
mutual
def selS:Tr→List Tm→List Pick
  | .mk k p a y c e,args=>if k=2 then
      (match args[a.toNat]? with
      | some t=>if (classS t).any then selHd y args else selCs (classS t).name args (selHd e args) c
      | none=>[])
    else p
def selHd:List Tr→List Tm→List Pick
  | [],_=>[]
  | t::_,args=>selS t args
def selCs (s:Str)(args:List Tm)(d:List Pick):List Cs→List Pick
  | []=>d
  | c::r=>if c.name=s then selC args c else selCs s args d r
def selC (args:List Tm):Cs→List Pick
  | .mk _ t=>selS t args
end
def caseB (B:List Row→Int→Option (Tr×Int))(l:List Row)(a:Int):List Str→Int→Option (List Cs×Int)
  | [],n=>some ([],n)
  | s::r,n=>match B (l.filter fun x=>fitsB (clsOf x a) ⟨false,s⟩) n with
    | none=>none
    | some (t,n1)=>match caseB B l a r n1 with
      | none=>none
      | some (cs,n2)=>some (.mk s t::cs,n2)
def nodeT (B:List Row→Int→Option (Tr×Int))(l:List Row)(a:Int)(ns:List Str)(left:Int):Option (Tr×Int) :=
  match B (l.filter fun x=>fitsB (clsOf x a) anyC) left with
  | none=>none
  | some (tA,n1)=>match caseB B l a ns n1 with
    | none=>none
    | some (cs,n2)=>match B (l.filter fun x=>fitsB (clsOf x a) ⟨false,emptyS⟩) n2 with
      | none=>none
      | some (tE,n3)=>some (.mk 2 [] a [tA] cs [tE],n3)
/-- The tree of some clauses: k arguments of n are left to be looked at. -/
def loopB (n:Nat):Nat→List Row→Int→Option (Tr×Int)
  | 0,l,left=>some (.mk 1 (l.map Row.pick) 0 [] [] [],left)
  | k+1,l,left=>if namesS l (n-(k+1))=[] then loopB n k l left
    else nodeT (fun l left=>if left-1<0 then none else loopB n k l (left-1)) l ((n-(k+1):Nat):Int) (namesS l (n-(k+1))) left
def bldS (n k:Nat)(l:List Row)(left:Int):Option (Tr×Int):=if left-1<0 then none else loopB n k l (left-1)
def buildS (f:Flat)(pred:Str):Tr×Int :=
  if (rowsR f pred).2.2≠0 then (.mk 0 [] 0 [] [] [],(rowsR f pred).2.2)
  else match bldS (rowsR f pred).2.1 (rowsR f pred).2.1 (rowsR f pred).1 4000 with
    | none=>(.mk 0 [] 0 [] [] [],2)
    | some (t,_)=>(t,0)
def isFormedS (t:Tr)(n:Int):Bool:=decide (sizeS t 4000≤4000)&&(frm n t ([],0)).1
def checkS (f:Flat)(pred:Str)(t:Tr):Int :=
  if (rowsR f pred).2.2≠0 then (rowsR f pred).2.2
  else if isFormedS t ((rowsR f pred).2.1:Nat)&&rightS t (rowsR f pred).1 then 0 else 230
def rawsB (l:List Tm):Bool:=l.all fun t=>decide (rawE t=0)
def selectS (t:Tr)(args:List Tm):List Pick×Int :=
  if 8<args.length∨rawsB args=false then ([],1)
  else if isFormedS t (args.length:Nat)=false then ([],230)
  else (selS t args,0)
end Go.Vx
end
section
set_option maxRecDepth 100000
namespace Go.Vx
open Go.Proofs
theorem tb83:(fOff Tryz.prog 30 3=some 3)∧(szOf Tryz.prog 27=some 1)∧(aggOf Tryz.prog 27=some false)∧(fOff Tryz.prog 30 5=some 5)∧(elOf Tryz.prog 212=some 27)∧(zeroOf Tryz.prog 27=some (.slice none 0 0))∧(fOff Tryz.prog 30 4=some 4)∧(szOf Tryz.prog 28=some 1)∧(aggOf Tryz.prog 28=some false)∧(elOf Tryz.prog 28=some 114)∧(szOf Tryz.prog 114=some 7)∧(aggOf Tryz.prog 114=some true)∧(zeroOf Tryz.prog 114=some (.agg #[(.string ⟨#[]⟩),(.int .i64 0),(.slice none 0 0),(.int .i64 0),(.slice none 0 0),(.slice none 0 0),(.slice none 0 0)]))∧(fOff Tryz.prog 114 1=some 1)∧(szOf Tryz.prog 30=some 6)∧(aggOf Tryz.prog 30=some true)∧(elOf Tryz.prog 27=some 30)∧(zeroOf Tryz.prog 30=some (.agg #[(.int .i64 0),(.slice none 0 0),(.int .i64 0),(.slice none 0 0),(.slice none 0 0),(.slice none 0 0)]))∧(Tryz.prog.underlying 28=some (.slice 114))∧(bytesOf Tryz.prog 30=some 112):=by
  refine ⟨?_,?_,?_,?_,?_,?_,?_,?_,?_,?_,?_,?_,?_,?_,?_,?_,?_,?_,?_,?_⟩<;>first | trivial | kernel_rfl
theorem tb113:(elOf Tryz.prog 108=some 107)∧(szOf Tryz.prog 107=some 2)∧(zeroOf Tryz.prog 107=some (.agg #[(.bool false),(.string ⟨#[]⟩)]))∧(bytesOf Tryz.prog 107=some 24):=by
  refine ⟨?_,?_,?_,?_⟩<;>first | trivial | kernel_rfl
theorem tb65:(elOf Tryz.prog 26=some 32)∧(szOf Tryz.prog 32=some 2)∧(zeroOf Tryz.prog 32=some (.agg #[(.int .i64 0),(.int .i64 0)]))∧(bytesOf Tryz.prog 32=some 16):=by
  refine ⟨?_,?_,?_,?_⟩<;>first | trivial | kernel_rfl
theorem tb80:(szOf Tryz.prog 30=some 6)∧(aggOf Tryz.prog 30=some true)∧(elOf Tryz.prog 27=some 30)∧(zeroOf Tryz.prog 30=some (.agg #[(.int .i64 0),(.slice none 0 0),(.int .i64 0),(.slice none 0 0),(.slice none 0 0),(.slice none 0 0)]))∧(Tryz.prog.underlying 27=some (.slice 30)):=by
  refine ⟨?_,?_,?_,?_,?_⟩<;>first | trivial | kernel_rfl
def trls (ls:List (List Tr)):List (List AV):=ls.map fun l=>[AV.list .none 6 (Tr.embs l)]
theorem trls_len (ls:List (List Tr)):(trls ls).length=ls.length:=by simp [trls]
theorem wrap64n {a b:Nat}(h:a+b≤1000000000000):IntKind.i64.wrap ((a:Int)+(b:Int))=((a+b:Nat):Int):=wrap64 (by omega) (by omega)
theorem MW.appT {σ S:Store}{v:AV}{l m:List Tr}{rt:Rt}{s2:Nat}{K:AV→Store→Prop}(h:MW σ 6 S v (Tr.embs l))(hs2:s2=6∨Tr.embs m=[])(hl:l.length+m.length≤137438953472)(hH:Has σ S)
    (kk:∀ v' S',MW σ 6 S' v' (Tr.embs (l++m))→KeptIn σ S S'→Has σ S'→K v' S'):aappM Tryz.prog 27 27 v (.list rt s2 (Tr.embs m)) S K :=
  MW.append h (Tr.embs_sz l) (Tr.embs_sz m) (Tr.embs_one l) (Tr.embs_one m) hs2 tb123.2.2.2.2.2.2.2.1 tb123.2.2.2.2.2.2.2.2.1 tb123.2.2.2.2.2.2.2.2.2.1 tb123.2.2.2.2.2.2.2.2.2.2 (by rw [tb123.2.2.2.2.2.2.2.1];rfl) rfl (by decide) (by rw [Tr.embs_len,Tr.embs_len];exact hl) hH (fun v' S' h1 h2 h3=>kk v' S' (by rw [Tr.embs_app];exact h1) h2 h3)
theorem concat_c (ls:List (List Tr))(hls:ls.flatten.length≤137438953472)(hl:ls.length≤1000)(σ:Store):ACalls Tryz.prog 123 [.list .full 1 (trls ls)] σ (fun r σ'=>∃ v,r=.ret v∧MW σ 6 σ' v (Tr.embs ls.flatten)∧Has σ σ'):=by
  refine acalls_of [33] [] Tryz.func123 rfl (by kernel_rfl) ?_;rw [Tryz.ntmps123,Tryz.results123]
  try simp only [go_sem,seval,tb123,trls_len]
  have hpre:∀ i,(ls.take i).flatten.length≤ls.flatten.length:=by
    intro i
    have:ls.flatten=(ls.take i).flatten++(ls.drop i).flatten:=by rw [← List.flatten_append,List.take_append_drop]
    rw [this,List.length_append];omega
  have hstep:∀ (i:Nat) (l:List Tr),ls[i]?=some l→(ls.take (i+1)).flatten=(ls.take i).flatten++l:=by
    intro i l h
    rw [List.take_add_one,h,Option.toList_some,List.flatten_append];simp
  refine aloopT (mu:=[33]) (dr:=[]) [3,5,11,12,13,14,15,16,17,18,19,20,21,22] (fun i:Nat=>[(11,vi i),(3,vi ((ls.take i).flatten.length:Nat))]) (fun _=>σ) (fun i=>i≤ls.length) (fun i=>ls.length-i) 0 (by kernel_rfl) (by omega) ⟨.refl _,.refl _,trivial⟩ (.refl _) ?_
  intro i hi
  try simp only [go_sem,seval,tb123,trls_len]
  refine ⟨fun h1=>⟨by omega,h1,fun c hc=>?_⟩,fun h1=>?_⟩
  · rw [Int.toNat_natCast] at hc
    obtain ⟨l,hl2,rfl⟩:=mapGet hc
    have e1:=hstep i l hl2
    have e2:=hpre (i+1)
    rw [e1,List.length_append] at e2
    try simp only [go_sem,seval,tb123,Tr.embs_len]
    rw [wrap64n (by omega)]
    have h0:((((ls.take i).flatten.length+l.length:Nat):Int)<0)=False:=eq_false (by omega)
    try simp only [go_sem,seval,tb123,h0,decide_false]
    rw [show IntKind.i64.wrap ((i:Int)+1)=((i+1:Nat):Int) from wrap64 (by omega) (by omega)]
    exact .mk (i+1) (by omega) (by omega) ⟨.refl _,by simp only [e1,List.length_append];exact .refl _,trivial⟩ (by repeat first | exact Keeps.turn _ rfl | refine Keeps.put rfl ?_) (.refl _)
  · have hil:ls.take i=ls:=List.take_of_length_le (by omega)
    rw [hil]
    try simp only [go_sem,seval,tb123]
    refine (growT_c ls.flatten.length hls σ 0).mono ?_
    rintro r σ' ⟨v0,rfl,hm,hh⟩
    try simp only [go_sem,seval,tb123,trls_len]
    refine aloopT (mu:=[33]) (dr:=[]) [6,8,27,28,29,30,31,32,33,34] (fun x:Nat×AV×Store=>[(27,vi x.1),(6,x.2.1)]) (fun x=>x.2.2) (fun x=>x.1≤ls.length∧MW σ 6 x.2.2 x.2.1 (Tr.embs (ls.take x.1).flatten)∧Has σ x.2.2) (fun x=>ls.length-x.1) (0,v0,σ') (by kernel_rfl) ⟨by simp,hm,hh⟩ ⟨.refl _,.refl _,trivial⟩ (.refl _) ?_
    rintro ⟨j,v,S⟩ ⟨j1,j2,j3⟩
    simp only at j1 j2 j3
    try simp only [go_sem,seval,tb123,trls_len]
    refine ⟨fun h1=>⟨by omega,h1,fun c hc=>?_⟩,fun h1=>?_⟩
    · rw [Int.toNat_natCast] at hc
      obtain ⟨l,hl2,rfl⟩:=mapGet hc
      have e1:=hstep j l hl2
      have e2:=hpre (j+1)
      rw [e1,List.length_append] at e2
      try simp only [go_sem,seval,tb123,j2.one.1,j2.one.2]
      refine j2.appT (.inl rfl) (by omega) j3 (fun v' S' hv' hk hS'=>?_)
      try simp only [go_sem,seval,tb123,hv'.one.1,hv'.one.2]
      rw [show IntKind.i64.wrap ((j:Int)+1)=((j+1:Nat):Int) from wrap64 (by omega) (by omega)]
      exact .mk (j+1,v',S') ⟨by simp only;omega,by simp only [e1];exact hv',hS'⟩ (by simp only;omega) ⟨.refl _,.refl _,trivial⟩ (by repeat first | exact Keeps.turn _ rfl | refine Keeps.put rfl ?_) (.refl _)
    · have hjl:ls.take j=ls:=List.take_of_length_le (by omega)
      rw [hjl] at j2
      try simp only [go_sem,seval,tb123,j2.one.1,j2.one.2]
      exact .mk (.refl _) (.refl _) ⟨v,rfl,j2,j3⟩
theorem parts_c' (t:Tr)(hB:trN t≤1073741824):Pur Tryz.prog 83 [.agg t.emb] (.list .none 6 (Tr.embs (partsT t))):=by
  intro σ
  refine ACalls.nodup (by kernel_rfl) (fun hnd=>?_)
  have hpl:=parts_len t
  obtain ⟨k,p,a,y,c,e⟩:=t
  simp only [Tr.emb_mk]
  simp only [partsT,List.length_append,List.length_map] at hpl
  refine acalls_of [23] [] Tryz.func83 rfl (by kernel_rfl) ?_;rw [Tryz.ntmps83,Tryz.results83]
  try simp only [go_sem,seval,tb83]
  refine ⟨rfl,(concat_c [y,e] (by simp;omega) (by simp) σ).mono ?_⟩
  rintro r σ' ⟨v0,rfl,hm,hh⟩
  have hye:[y,e].flatten=y++e:=by simp
  rw [hye] at hm
  try simp only [go_sem,seval,tb83,hm.one.1,hm.one.2,Cs.embs_len]
  refine aloopT (mu:=[23]) (dr:=[]) [3,5,15,16,17,18,19,20,21,22,23,24] (fun x:Nat×AV×Store=>[(15,vi x.1),(3,x.2.1)]) (fun x=>x.2.2) (fun x=>x.1≤c.length∧MW σ 6 x.2.2 x.2.1 (Tr.embs (y++e++(c.take x.1).map Cs.tree))∧Has σ x.2.2) (fun x=>c.length-x.1) (0,v0,σ') (by kernel_rfl) ⟨by simp,by simpa using hm,hh⟩ ⟨.refl _,.refl _,trivial⟩ (.refl _) ?_
  rintro ⟨j,v,S⟩ ⟨j1,j2,j3⟩
  simp only at j1 j2 j3
  try simp only [go_sem,seval,tb83,Cs.embs_len]
  refine ⟨fun h1=>⟨by omega,h1,fun d hd=>?_⟩,fun h1=>?_⟩
  · rw [Int.toNat_natCast] at hd
    obtain ⟨q,hq,rfl⟩:=Cs.embs_get hd
    obtain ⟨s,t⟩:=q
    obtain ⟨k1,p1,a1,y1,c1,e1⟩:=t
    try simp only [go_sem,seval,tb83,Cs.emb_mk]
    intro b5 hb5
    try simp only [go_sem,seval,tb83,j2.one.1,j2.one.2]
    have hstep:y++e++(c.take (j+1)).map Cs.tree=(y++e++(c.take j).map Cs.tree)++[.mk k1 p1 a1 y1 c1 e1]:=by
      rw [List.take_add_one,hq,Option.toList_some,List.map_append];simp [Cs.tree]
    refine ⟨rfl,(j2.cons hb5 _).appT (m:=[.mk k1 p1 a1 y1 c1 e1]) (.inl rfl) (by simp;omega) (j3.cons _) (fun v' S' hv' hk hS'=>?_)⟩
    try simp only [go_sem,seval,tb83,hv'.one.1,hv'.one.2]
    rw [show IntKind.i64.wrap ((j:Int)+1)=((j+1:Nat):Int) from wrap64 (by omega) (by omega)]
    exact .mk (j+1,v',S') ⟨by simp only;omega,by simp only [hstep];exact hv',hS'⟩ (by simp only;omega) ⟨.refl _,.refl _,trivial⟩ (by repeat first | exact Keeps.turn _ rfl | refine Keeps.put rfl ?_) (.refl _)
  · have hjl:c.take j=c:=List.take_of_length_le (by omega)
    rw [hjl] at j2
    try simp only [go_sem,seval,tb83,j2.one.1,j2.one.2]
    exact .mkS (j2.shift (Tr.embs_sz _) (Tr.embs_one _) (by rw [Tr.embs_len];simp;omega) j3 hnd) ⟨rfl,rfl⟩
abbrev bigN:Nat:=1073741824
theorem partsT_c (t:Tr)(hB:trN t≤bigN):Pur Tryz.prog 83 [.agg t.emb] (.list .none 6 (Tr.embs (partsT t))):=parts_c' t hB
theorem size_c (t:Tr):∀ (m:Int),trN t≤bigN→0≤m→m≤1000000→Pur Tryz.prog 80 [.agg t.emb,vi m] (vi (sizeS t m)):=by
  refine trN_ind (M:=fun t=>∀ (m:Int),trN t≤bigN→0≤m→m≤1000000→Pur Tryz.prog 80 [.agg t.emb,vi m] (vi (sizeS t m))) (fun t ih m hB h0 h1=>?_) t
  intro σ
  have hpl:=parts_len t
  have hpc:=partsT_c t hB
  have hbig:bigN=1073741824:=rfl
  rw [sizeS_eq]
  have hmem:∀ x∈partsT t,trN x<trN t:=fun x hx=>parts_lt hx
  obtain ⟨l,hl⟩:∃ l,l=partsT t:=⟨_,rfl⟩
  rw [← hl] at hpc hmem hpl ⊢
  obtain ⟨k,p,a,y,c,e⟩:=t
  simp only [Tr.emb_mk] at hpc ⊢
  refine acalls_of [] [] Tryz.func80 rfl (by kernel_rfl) ?_;rw [Tryz.ntmps80,Tryz.results80]
  try simp only [go_sem,seval,tb80]
  refine hpc.use ?_
  try simp only [go_sem,seval,tb80,Tr.embs_len]
  refine aloopT (mu:=[]) (dr:=[]) [5,7,11,12,13,14,15,16,17,18,19,20,21,22,23,24,25] (fun x:Nat×Int=>[(11,vi x.1),(5,vi x.2)]) (fun _=>σ) (fun x=>x.1≤l.length∧sizeTs l m 1=sizeTs (l.drop x.1) m x.2∧1≤x.2∧x.2≤m+1) (fun x=>l.length-x.1) (0,1) (by kernel_rfl) ⟨by simp,by simp,by simp,by simp;omega⟩ ⟨.refl _,.refl _,trivial⟩ (.refl _) ?_
  rintro ⟨i,n⟩ ⟨i1,i2,i3,i4⟩
  simp only at i1 i2 i3 i4
  try simp only [go_sem,seval,tb80,Tr.embs_len]
  refine ⟨fun h1=>⟨by omega,h1,fun d hd=>?_⟩,fun h1=>?_⟩
  · rw [Int.toNat_natCast] at hd
    obtain ⟨q,hq,rfl⟩:=Tr.embs_get hd
    have hd:l.drop i=q::l.drop (i+1):=List.drop_eq_getElem_cons (List.getElem?_eq_some_iff.1 hq).1 |>.trans (by rw [(List.getElem?_eq_some_iff.1 hq).2])
    have hqm:=hmem q (List.mem_of_getElem? hq)
    have hsz:=sizeS_bd q (m-n)
    have ihq:=fun (h:n≤m)=>ih q hqm (m-n) (by omega) (by omega) (by omega)
    rw [hd] at i2
    simp only [sizeTs] at i2
    obtain ⟨k1,p1,a1,y1,c1,e1⟩:=q
    try simp only [go_sem,seval,tb80,Tr.emb_mk]
    intro b7 hb7
    try simp only [go_sem,seval,tb80]
    refine ⟨fun h2=>?_,fun h2=>?_⟩
    · rw [if_pos h2] at i2
      try simp only [go_sem,seval,tb80]
      rw [i2]
      exact fin_pur (.refl _) ((Sub.refl _).skip _)
    · rw [if_neg h2] at i2
      rw [wrap64 (x:=m-n) (by omega) (by omega)]
      refine (ihq (by omega)).use ?_
      have hs:=hsz (by omega)
      try simp only [go_sem,seval,tb80]
      rw [show IntKind.i64.wrap ((i:Int)+1)=((i+1:Nat):Int) from wrap64 (by omega) (by omega),wrap64 (x:=n+_) (by omega) (by omega)]
      exact .mk (i+1,_) ⟨by simp only;omega,i2,by simp only;omega,by simp only;omega⟩ (by simp only;omega) ⟨.refl _,.refl _,trivial⟩ (by repeat first | exact Keeps.turn _ rfl | refine Keeps.put rfl ?_) ((Sub.refl _).skip _)
  · rw [List.drop_of_length_le (by omega)] at i2
    try simp only [go_sem,seval,tb80]
    exact fin_i i2.symm
theorem Pick.embs_sz (l:List Pick):∀ e∈Pick.embs l,e.length=2:=fun e he=>by obtain ⟨t,_,rfl⟩:=List.mem_map.1 he;rfl
theorem Pick.embs_one (l:List Pick):(Pick.embs l).flatten.all AV.one=true:=all_flat _ (fun p=>rfl) l
theorem clonePick_c (l:List Pick)(rt:Rt)(s:Nat)(hs:s=2∨l=[]):Pur Tryz.prog 65 [.list rt s (Pick.embs l)] (.list .none 2 (Pick.embs l)):=by
  intro σ
  refine ACalls.nodup (by kernel_rfl) (fun hnd=>?_)
  refine ACalls.ok (by kernel_rfl) (fun hok=>?_)
  have hl:=(hok _ List.mem_cons_self).len
  rw [Pick.embs_len] at hl
  clear hok
  refine acalls_of [7] [] Tryz.func65 rfl (by kernel_rfl) ?_;rw [Tryz.ntmps65,Tryz.results65]
  try simp only [go_sem,seval,tb65]
  intro b hb
  cases b with
  | true =>
    have:l=[]:=by have:=hb rfl;simpa [Pick.embs] using this
    subst this
    try simp only [go_sem,seval,tb65]
    exact fin_pur (.nilA _ _ _) (.refl _)
  | false =>
    try simp only [go_sem,seval,tb65]
    refine ⟨rfl,MW.append (sz:=2) (σ:=σ) (es:=[]) (.inl ⟨rfl,_,rfl⟩) (by simp) (Pick.embs_sz l) (by simp) (Pick.embs_one l) (hs.imp id (fun h=>by rw [h];rfl)) tb65.1 tb65.2.1 tb65.2.2.1 tb65.2.2.2 (by rw [tb65.1];rfl) rfl (by decide) (by simp [Pick.embs_len];omega) (.refl _) (fun v' S' h1 _ h3=>?_)⟩
    try simp only [go_sem,seval,tb65,h1.one.1,h1.one.2]
    exact .mkS (h1.shift (Pick.embs_sz l) (Pick.embs_one l) (by simpa [Pick.embs_len] using hl) h3 hnd) ⟨rfl,rfl⟩
theorem cloneCls_c (l:List Cls)(hne:l≠[])(rt:Rt)(s:Nat)(hs:s=2∨l=[])(σ:Store):ACalls Tryz.prog 113 [.list rt s (Cls.embs l)] σ (fun r σ'=>∃ b cap rest,Fresh σ b∧l.length≤cap∧l.length≤137438953472∧r=.ret (.val (.slice (some ⟨b,0,none⟩) l.length cap))∧σ'=(b,.cells ((Cls.embs l).flatten++rest))::σ):=by
  refine ACalls.ok (by kernel_rfl) (fun hok=>?_)
  have hl:=(hok _ List.mem_cons_self).len
  rw [Cls.embs_len] at hl
  clear hok
  refine acalls_of [7] [] Tryz.func113 rfl (by kernel_rfl) ?_;rw [Tryz.ntmps113,Tryz.results113]
  try simp only [go_sem,seval,tb113]
  intro b hb
  cases b with
  | true=>exact absurd (by have:=hb rfl;simpa [Cls.embs] using this) hne
  | false =>
    try simp only [go_sem,seval,tb113]
    unfold aappM
    simp only [tb113]
    refine ⟨rfl,rfl,rfl,by decide,hs.imp id (fun h=>by rw [h];rfl),Cls.embs_sz l,by simpa [lim,Cls.embs_len] using hl,by simp,by simp,fun h=>absurd (by simpa [Cls.embs] using h) hne,fun _ b nc zs hb2 hnc hzs=>?_⟩
    simp only [List.length_nil,Nat.zero_add,Cls.embs_len] at hnc hzs ⊢
    try simp only [go_sem,seval,tb113]
    exact .mk (.refl _) (.refl _) ⟨b,nc,zs,hb2,hnc,hl,rfl,by simp⟩
end Go.Vx
end
