/- Part Q29 of the proof of treeLooksProved: the walk of the program on abstract values, and the plain law. -/
import Derived.Test.YtmedmnondjmleaaGreatQ28
import Derived.Test.YtmedmnondjmleaaGreatQSortLay
set_option linter.unusedVariables false
set_option linter.unusedSimpArgs false
section
set_option maxRecDepth 100000
namespace Go.Vx
open Go.Proofs Go.Sort Go.Shelf
theorem QB {w w':World}(h:Ev [] w [] w'):w'=grow (w.drewN (w'.drawn-w.drawn)) (w'.heap.extract w.heap.size w'.heap.size):=by
 have hh:w'.heap=w.heap++w'.heap.extract w.heap.size w'.heap.size:=by
  apply Array.ext_getElem?
  intro i
  rw [Array.getElem?_append]
  by_cases hi:i<w.heap.size
  ·rw [if_pos hi]
   exact h.obj i hi (fun o ⟨x,hx,_⟩=>by cases hx)
  ·rw [if_neg hi,Array.getElem?_extract]
   have:=h.size
   by_cases h2:i<w'.heap.size
   ·rw [if_pos (by omega)];congr 1;omega
   ·rw [if_neg (by omega),Array.getElem?_eq_none (by omega)]
 obtain ⟨hp,tp,dr,os,ou⟩:=w'
 have h1:=h.os
 have h2:=h.tape
 have h3:=h.output
 have h4:=h.drawn
 simp only at h1 h2 h3 h4 hh
 simp only [grow,World.drewN]
 rw [← hh,h1,h2,h3]
 congr 1
 omega
theorem JS {σ:Store}{w:World}{n:Nat}{os:Array Obj}(h:Zo σ w):Zo σ (grow (Sort.ahead w n) os)∧Ev σ w σ (grow (Sort.ahead w n) os):=by
 have hg:∀ b,b<w.heap.size→(grow (Sort.ahead w n) os).heap[b]?=w.heap[b]?:=fun b hb=>by
  show (w.heap++os)[b]?=_
  rw [Array.getElem?_append,if_pos hb]
 have hb:∀ b x,(b,x)∈σ→b<w.heap.size:=fun b x hx=>by
  by_cases hlt:b<w.heap.size
  ·exact hlt
  ·exact absurd rfl (Yv (h.fresh (Nat.le_of_not_lt hlt)) hx)
 have ev:Ev σ w σ (grow (Sort.ahead w n) os):={
  os:=rfl,tape:=rfl,output:=rfl
  size:=by show w.heap.size≤(w.heap++os).size;simp
  cell:=fun b o hb _=>by unfold World.cell?;simp only;rw [hg b hb]
  obj:=fun b hb _=>hg b hb
  live:=fun b o _ hl=>hl
  drawn:=by show w.drawn≤w.drawn+n;omega }
 exact ⟨h.keep ev (fun b x hx=>hg b (hb b x hx)),ev⟩
structure RowV where
 rule:Int
 alt:Int
 rest:Value
 one:rest.oneCell'=true
instance:Inhabited RowV:=⟨⟨0,0,.bool false,rfl⟩⟩
def RowV.enc (x:RowV):List Value:=[.int .i64 x.rule,.int .i64 x.alt,x.rest]
def RowV.pick (x:RowV):Pick:=⟨x.rule,x.alt⟩
def RowV.cmp (x y:RowV):Int:=U2 x.pick y.pick
theorem Ii (x y:RowV):Pur Tryz.prog 95 [.val (.agg x.enc.toArray),.val (.agg y.enc.toArray)] (vi (x.cmp y)):=by
 intro σ
 have h:=UE x.pick y.pick
 simp only [Pick.emb,RowV.pick] at h
 have key:Zj Tryz.prog 95 [.agg [vi x.rule,vi x.alt,.val x.rest],.agg [vi y.rule,vi y.alt,.val y.rest]] σ (Z8 (vi (x.cmp y)) σ):=by
  refine Zc [] [] Tryz.func95 rfl (by kernel_rfl) ?_;rw [Tryz.ntmps95,Tryz.results95]
  try simp only [go_sem,seval,aB]
  refine ⟨x.one,y.one,h.use ?_⟩
  try simp only [go_sem,seval,aB]
  exact Zu
 have wk:∀ z:RowV,Wk (.val (.agg z.enc.toArray)) (.agg [vi z.rule,vi z.alt,.val z.rest]):=fun z L w v hv=>by
  cases hv
  refine .agg _ _ rfl (fun i c v hc hv=>?_)
  match i with
  | 0=>simp [RowV.enc] at hc hv;subst hc;subst hv;exact .val _
  | 1=>simp [RowV.enc] at hc hv;subst hc;subst hv;exact .val _
  | 2=>simp [RowV.enc] at hc hv;subst hc;subst hv;exact .val _
  | i+3=>simp at hc
 exact key.wk ⟨wk x,wk y,trivial⟩
theorem UT (a b:Pick):U2 a b<0↔a.rule<b.rule∨(a.rule=b.rule∧a.alt<b.alt):=by
 unfold U2 VF
 by_cases h1:a.rule<b.rule
 ·simp [h1]
 ·by_cases h2:b.rule<a.rule
  ·simp [h1,h2];omega
  ·have e:a.rule=b.rule:=by omega
   by_cases h3:a.alt<b.alt
   ·simp [h3,e]
   ·by_cases h4:b.alt<a.alt<;>simp [h3,h4,e]
theorem Jo:SWO (ltOf RowV.cmp) where
 irrefl x:=by simp only [ltOf,RowV.cmp,decide_eq_false_iff_not,UT];omega
 trans x y z h1 h2:=by simp only [ltOf,RowV.cmp,decide_eq_true_eq,UT] at h1 h2 ⊢;omega
 ntrans x y z h1 h2:=by simp only [ltOf,RowV.cmp,decide_eq_false_iff_not,UT] at h1 h2 ⊢;omega
theorem Nn (b o n:Nat)(w:World):CmpLays Tryz.prog 95 #[] RowV.enc 3 RowV.cmp b o n w:=by
 intro m os dk _ x y
 have h:=(Ii x y []).2 (sortWorldK RowV.enc 3 w b o m dk os) #[.agg x.enc.toArray,.agg y.enc.toArray] ⟨by simp,by simp⟩ ⟨rfl,fun i a v ha hv=>by
  match i with
  | 0=>simp at ha hv;subst ha;subst hv;exact .val _
  | 1=>simp at ha hv;subst ha;subst hv;exact .val _
  | i+2=>simp at ha⟩
 refine h.mono fun e w' he=>?_
 cases e with
 | returned v =>
   obtain ⟨av,σ',⟨h1,rfl⟩,hv,_,hev⟩:=he
   injection h1 with h1;subst h1
   cases hv
   exact ⟨rfl,_,_,QB hev⟩
 | panicked c=>obtain ⟨pv,σ',_,⟨h1,_⟩,_⟩:=he;cases h1
 | outgrown=>exact he.elim
theorem Ic {d d':Array RowV}(hs:d.toList.Pairwise (fun x y=>x.cmp y<0))(hp:PermIn 0 d.size d d')(hs':SortedIn (ltOf RowV.cmp) 0 d.size d'):d'=d:=by
 obtain ⟨h1,_,h3⟩:=hp
 have e1:d'.extract 0 d.size=d':=by rw [← h1];simp
 have e2:d.extract 0 d.size=d:=by simp
 rw [e1,e2] at h3
 apply Array.toList_inj.1
 refine h3.eq_of_pairwise (le:=fun x y=>¬ y.cmp x<0) (fun a b ha hb h h'=>?_) ?_ ?_
 ·have ha':=h3.mem_iff.1 ha
  by_cases hab:a=b
  ·exact hab
  ·exfalso
   have:∀ {l:List RowV},l.Pairwise (fun x y=>x.cmp y<0)→a∈l→b∈l→a.cmp b<0∨b.cmp a<0:=by
    intro l hl
    induction hl with
    | nil=>intro h;cases h
    | cons hx _ ih =>
      intro ha hb
      rcases List.mem_cons.1 ha with e1 | a1
      ·rcases List.mem_cons.1 hb with e2 | b1
       ·exact absurd (e1.trans e2.symm) hab
       ·rw [e1];exact .inl (hx _ b1)
      ·rcases List.mem_cons.1 hb with e2 | b1
       ·rw [e2];exact .inr (hx _ a1)
       ·exact ih a1 b1
   rcases this hs ha' hb with h2 | h2
   ·exact h' h2
   ·exact h h2
 ·rw [List.pairwise_iff_getElem]
  intro i j hi hj hij
  have:=hs' i j (Nat.zero_le _) hij (by rw [← h1];simpa using hj)
  simp only [ltOf,decide_eq_false_iff_not] at this
  have hi':i<d'.size:=by simpa using hi
  have hj':j<d'.size:=by simpa using hj
  rw [getElem!_pos d' i hi',getElem!_pos d' j hj'] at this
  simpa using this
 ·refine hs.imp fun {x y} h=>?_
  have h0:=Jo.trans
  intro h2
  simp only [RowV.cmp,UT] at h h2
  omega
theorem FU {P:Program}{T:TypeId}{b:Bool}(h:Ze P T=some b)(w:World):(isAgg T).run P w=.ok b w:=WT h w
theorem LE (l:List Row)(b e c:Nat)(σ:Store)(hne:l≠[])(gt:σ.get b=some (.tail e c))(hs:l.Pairwise (fun x y=>U2 x.pick y.pick<0)) :
 Zj Tryz.prog 94 [.list (.tip b e c) 3 (cC l),.val (.func (.func 95) #[] #[])] σ (Z8 (.tup []) σ):=by
 refine ⟨by kernel_rfl,fun w vs hσ hv=>?_⟩
 obtain ⟨hl2,hvv⟩:=hv
 obtain ⟨v0,v1,rfl⟩:∃ v0 v1,vs=#[v0,v1]:=by
  obtain ⟨vl⟩:=vs
  match vl,hl2 with
  | [x,y],_=>exact ⟨x,y,rfl⟩
 have hv0:=hvv 0 _ v0 rfl rfl
 have hv1:=hvv 1 _ v1 rfl rfl
 cases hv1
 have hen:cC l≠[]:=fun h=>hne (by have:=congrArg List.length h;rw [cE] at this;exact List.length_eq_zero_iff.1 this)
 cases hv0 with
 | list _ _ _ cap a b' o rd hcap hlim hsz ha hr h1 h2 =>
 have ha':=ha hen
 obtain ⟨o',ho,_,_⟩:=hr
 rw [ha'] at ho
 injection ho with ho;injection ho with ho1 ho2 _
 subst ho1;subst ho2
 have hge:∀ (i:Nat) (hi:i<l.length),(cC l)[i]?=some (l[i]).emb:=fun i hi=>by simp [cC,hi]
 have hone:∀ (i:Nat) (hi:i<l.length),(rd (i * 3+2)).oneCell'=true:=fun i hi=>(h1 i _ 2 _ (hge i hi) rfl).2.2
 obtain ⟨d,hd⟩:∃ d:Array RowV,d=Array.ofFn (n:=l.length) fun i=>⟨l[i].pick.rule,l[i].pick.alt,rd (i * 3+2),hone i i.2⟩:=⟨_,rfl⟩
 have hds:d.size=l.length:=by rw [hd];simp
 have hdg:∀ (i:Nat) (hi:i<l.length),d[i]! = ⟨l[i].pick.rule,l[i].pick.alt,rd (i * 3+2),hone i hi⟩:=fun i hi=>by
  rw [getElem!_pos d i (by rw [hds];exact hi)];subst hd;simp
 obtain ⟨vs,T,hb,_⟩:=hσ.obj b' _ (ZW gt)
 have hH:HoldsK RowV.enc 3 w b' o d:=by
  intro j hj
  rw [size_flatK,hds] at hj
  have hi:j / 3<l.length:=by omega
  rw [get_flatK _ _ _ j (by rw [hds];exact hj),hdg _ hi]
  have hc:j % 3<3:=Nat.mod_lt _ (by omega)
  have hj3:j / 3 * 3+j % 3=j:=by omega
  refine ⟨?_,by unfold World.frozen?;rw [hb];simp⟩
  have hcell:=fun cc h=>(h1 (j / 3) _ (j % 3) cc (hge _ hi) h).2.1
  have hval:=fun cc h=>h2 (j / 3) _ (j % 3) cc (hge _ hi) h
  rw [hj3] at hcell hval
  have h3:j % 3=0∨j % 3=1∨j % 3=2:=by omega
  rcases h3 with h3 | h3 | h3
  ·rw [h3] at hcell hval ⊢
   rw [hcell _ rfl]
   have:=hval _ rfl
   generalize rd j=x at this
   cases this;rfl
  ·rw [h3] at hcell hval ⊢
   rw [hcell _ rfl]
   have:=hval _ rfl
   generalize rd j=x at this
   cases this;rfl
  ·rw [h3] at hcell ⊢
   rw [hcell _ rfl]
   have:j / 3 * 3+2=j:=by omega
   simp [RowV.enc,this]
 have hblk:b'<w.heap.size:=(Array.getElem?_eq_some_iff.1 hb).1
 have hpw:d.toList.Pairwise (fun x y=>x.cmp y<0):=by
  rw [hd,List.pairwise_iff_getElem]
  intro i j hi hj hij
  simp at hi hj
  have:=List.pairwise_iff_getElem.1 hs i j hi hj hij
  simpa [RowV.cmp,RowV.pick] using this
 have hcon:=AnyQ.slices_SortFunc Tryz.sortRows 3 (FU (by kernel_rfl)) (Z2 (by kernel_rfl)) RowV.enc (fun _=>rfl) (fun x v hv=>by
  simp [RowV.enc] at hv
  rcases hv with rfl | rfl | rfl
  ·rfl
  ·rfl
  ·exact x.one) RowV.cmp Jo 95 #[] b' o cap d w (enters_of Tryz.func95 (by kernel_rfl) rfl) (Nn b' o d.size w) hH hblk (by rw [hds];rw [cE] at hlim;simp only [lim] at hlim;omega)
 rw [ha',cE]
 rw [hds] at hcon
 refine Calls.mono hcon fun en w' he=>?_
 obtain ⟨rfl,d',n,os,hp,hs',rfl⟩:=he
 rw [← hds] at hp hs'
 have hdd:=Ic hpw hp hs'
 subst hdd
 unfold sortWorldK
 rw [show Sort.putRowK RowV.enc 3 (Sort.ahead w n) b' o d'=Sort.ahead w n from putRowK_self RowV.enc 3 _ b' o d' (holdsK_ahead RowV.enc 3 w n b' o d' hH)]
 obtain ⟨k1,k2⟩:=JS (n:=n) (os:=os) hσ
 exact ⟨.tup [],σ,⟨rfl,rfl⟩,.tup [] [] rfl (fun i c v h=>by simp at h),k1,k2⟩
end Go.Vx
end
section
set_option maxRecDepth 100000
namespace Go.Vx
open Go.Proofs
theorem Xs:(Zh Tryz.prog 25=some 2)∧(Ze Tryz.prog 25=some true)∧(ZA Tryz.prog 153=some 50)∧(Zh Tryz.prog 50=some 2)∧(Ze Tryz.prog 50=some true)∧(Zl Tryz.prog 50=some (.agg #[(.int .i64 0),(.int .i64 0)]))∧(Zz Tryz.prog 25 0=some 0)∧(Zh Tryz.prog 22=some 1)∧(Ze Tryz.prog 22=some false)∧(Zz Tryz.prog 25 1=some 1)∧(Zh Tryz.prog 23=some 1)∧(Ze Tryz.prog 23=some false)∧(ZA Tryz.prog 50=none)∧(Zh Tryz.prog 3=some 1)∧(Tryz.prog.underlying 50=some (.array 2 3))∧(Ze Tryz.prog 3=some false)∧(ZA Tryz.prog 23=some 3)∧(ZA Tryz.prog 22=some 129)∧(Zh Tryz.prog 129=some 2)∧(Zz Tryz.prog 129 1=some 1)∧(Zh Tryz.prog 127=some 1)∧(Ze Tryz.prog 127=some false)∧(ZA Tryz.prog 127=some 132)∧(Zh Tryz.prog 132=some 7)∧(Ze Tryz.prog 132=some true)∧(Zl Tryz.prog 132=some (.agg #[(.slice none 0 0),(.slice none 0 0),(.slice none 0 0),(.string ⟨#[]⟩),(.slice none 0 0),(.slice none 0 0),(.slice none 0 0)]))∧(Zz Tryz.prog 132 4=some 4)∧(Zh Tryz.prog 33=some 1)∧(Ze Tryz.prog 33=some false)∧(Zl Tryz.prog 32=some (.agg #[(.int .i64 0),(.int .i64 0)]))∧(Yx Tryz.prog 32=some [(0,1),(1,1)])∧(Zl Tryz.prog 110=some (.agg #[(.int .i64 0),(.int .i64 0),(.slice none 0 0)]))∧(Yx Tryz.prog 110=some [(0,2),(2,1)])∧(Zh Tryz.prog 110=some 3)∧(ZA Tryz.prog 33=some 52)∧(Zh Tryz.prog 52=some 4)∧(Ze Tryz.prog 52=some true)∧(Zl Tryz.prog 52=some (.agg #[(.int .i64 0),(.int .i64 0),(.string ⟨#[]⟩),(.slice none 0 0)]))∧(Zz Tryz.prog 110 1=some 2)∧(Zh Tryz.prog 108=some 1)∧(Ze Tryz.prog 108=some false)∧(ZA Tryz.prog 108=some 107)∧(Zh Tryz.prog 107=some 2)∧(Zl Tryz.prog 107=some (.agg #[(.bool false),(.string ⟨#[]⟩)]))∧(Ze Tryz.prog 110=some true)∧(ZA Tryz.prog 99=some 110)∧(Tryz.prog.underlying 153=some (.slice 50))∧(Tryz.prog.underlying 99=some (.slice 110))∧(Tryz.prog.underlying 33=some (.slice 52))∧(ZQ Tryz.prog 107=some 24)∧(ZQ Tryz.prog 110=some 40):=by
 refine ⟨?_,?_,?_,?_,?_,?_,?_,?_,?_,?_,?_,?_,?_,?_,?_,?_,?_,?_,?_,?_,?_,?_,?_,?_,?_,?_,?_,?_,?_,?_,?_,?_,?_,?_,?_,?_,?_,?_,?_,?_,?_,?_,?_,?_,?_,?_,?_,?_,?_,?_,?_⟩<;>first | trivial | kernel_rfl
def Yw (T S S':Store):Prop:=∀ k x,(T.get k).isSome=true→S.get k=some x→S'.get k=some x
theorem Yw.refl (T S:Store):Yw T S S:=fun _ _ _ h=>h
theorem Yw.trans {T a b c:Store}(h:Yw T a b)(k:Yw T b c):Yw T a c:=fun i x hi hx=>k i x hi (h i x hi hx)
theorem Yw.cons {T S:Store}{b:Nat}(hb:Zx S b)(x:AObj):Yw T S ((b,x)::S):=fun k y _ hk=>by rw [Zy hb (by rw [hk];rfl)];exact hk
theorem Yw.set {T S:Store}{b:Nat}(hb:Zx T b)(x:AObj):Yw T S (S.set b x):=fun k y hs hk=>by rw [Zb (fun e=>by rw [e,Zm hb] at hs;cases hs)];exact hk
theorem LV.keepIn {σ0 T S S':Store}{v:AV}{sz:Nat}{es es0:List (List AV)}(h0:LV σ0 T v sz es0)(h:LV σ0 S v sz es)(k:Yw T S S'):LV σ0 S' v sz es:=by
 obtain ⟨rt,s',rfl,hz,ht⟩:=h
 obtain ⟨rt0,s0,e0,hz0,ht0⟩:=h0
 injection e0 with e1 e2 e3
 subst e1;subst e2
 refine ⟨rt,s',rfl,hz,ht.imp id (fun ⟨b,e,c,h1,h2,h3,h4⟩=>?_)⟩
 subst h1
 rcases ht0 with ⟨q,_⟩ | ⟨b',e',c',q1,q2,q3,q4⟩
 ·cases q
 ·injection q1 with q1 q5 q6
  subst q1
  exact ⟨b,e,c,rfl,h2,k _ _ (by rw [q3];rfl) h3,h4⟩
theorem LV.append2 {sz by_:Nat}{z:Value}{σ0 S:Store}{v:AV}{es ys:List (List AV)}{r2:Rt}{s2:Nat}{K:AV→Store→Prop}(h:LV σ0 S v sz es)
 (hzs:z.cells.size=sz) (hb5:by_≤512) (hl:es.length+ys.length≤137438953472) (h2:s2=sz) (hne:ys≠[]) (hH:Has σ0 S) (k:∀ v' S',LV σ0 S' v' sz (es++ys)→Yw σ0 S S'→Se S S'→Has σ0 S'→K v' S'):apZ (some sz) (some z) (some by_) v (.list r2 s2 ys) S K:=by
 obtain ⟨rt,s',rfl,hsz,ht⟩:=h
 have go:∀ (S1:Store) (b e c:Nat),(S1=S∨∃ b0 e0 c0,S.get b0=some (.tail e0 c0)∧Zx σ0 b0∧S1=S.del b0)→Zx S1 b→K (.list (.tip b e c) sz (es++ys)) ((b,.tail e c)::S1):=by
  intro S1 b e c hS1 hb
  have kept1:Yw σ0 S S1:=by
   intro k x hs hk
   rcases hS1 with rfl | ⟨b0,e0,c0,hg,hf,rfl⟩
   ·exact hk
   ·rw [Y6 (fun e=>by rw [e] at hs;rw [Zm hf] at hs;cases hs)];exact hk
  have kept2:Se S S1:=by
   intro k x hk hx
   rcases hS1 with rfl | ⟨b0,e0,c0,hg,_,rfl⟩
   ·exact hk
   ·rw [Y6 (fun e=>by rw [e,hg] at hk;injection hk with hk;exact hx _ _ hk.symm)];exact hk
  have has1:Has σ0 S1:=by
   intro p hp
   rcases hS1 with rfl | ⟨b0,e0,c0,hg,hf,rfl⟩
   ·exact hH p hp
   ·obtain ⟨k,x⟩:=p
    exact Vc (hH _ hp) (Yv hf hp)
  exact k _ _ ⟨_,_,rfl,.inl rfl,.inr ⟨b,e,c,rfl,rfl,Zi _ _ _,has1.fresh hb⟩⟩ (kept1.trans (.cons hb _)) (kept2.trans (.cons hb _)) (has1.cons _)
 unfold apZ
 refine ⟨hzs,hb5,by simp only [lim];exact hl,hsz,.inl h2,?_⟩
 rcases ht with ⟨rfl,rfl⟩ | ⟨b0,e0,c0,rfl,rfl,hg,hf⟩
 ·exact ⟨fun h=>absurd h hne,fun _ b e c hb=>go S b e c (.inl rfl) hb⟩
 ·exact ⟨hg,rfl,fun b e c hb=>go _ b e c (.inr ⟨b0,e0,c0,hg,hf,rfl⟩) hb⟩
def Wa (f:Flat)(x:Pick):Option FClause :=
 match f.rules[x.rule.toNat]? with
 | some n=>match f.groups[n.toNat]? with
   | some u=>u.alts[x.alt.toNat]?
   | none=>none
 | none=>none
def ZY (f:Flat):List Pick→List Row→Nat→Option (List Row×Nat)
 | [],out,n=>some (out,n)
 | x::r,out,n=>match Wa f x with
   | none=>none
   | some c=>if (0<out.length∧c.args.length≠n)∨8<c.args.length then none else ZY f r (out++[⟨x,c.args.map Yh⟩]) c.args.length
def Z1 (f:Flat)(pred:Str):List Row×Nat×Int :=
 if U4 f≠0 then ([],0,U4 f)
 else match ZY f (YI f pred) [] 0 with
  | none=>([],0,1)
  | some (out,n)=>if out=[] then ([],0,3) else (out,n,0)
theorem TN (f:Flat)(l m:List Pick)(out:List Row)(n:Nat):ZY f (l++m) out n=(ZY f l out n).bind fun q=>ZY f m q.1 q.2:=by
 induction l generalizing out n with
 | nil=>rfl
 | cons x r ih =>
   simp only [List.cons_append,ZY]
   cases Wa f x with
   | none=>rfl
   | some c =>
     simp only
     split
     ·rfl
     ·exact ih _ _
theorem TL (f:Flat)(l:List Pick)(out:List Row)(n:Nat)(q:List Row×Nat)(h:ZY f l out n=some q):q.1.map Row.pick=out.map Row.pick++l:=by
 induction l generalizing out n with
 | nil=>simp only [ZY,Option.some.injEq] at h;subst h;simp
 | cons x r ih =>
   simp only [ZY] at h
   cases hc:Wa f x with
   | none=>rw [hc] at h;cases h
   | some c =>
     rw [hc] at h
     simp only at h
     split at h
     ·cases h
     ·rw [ih _ _ h];simp
theorem JJ {pred:Str}{i:Nat}{l:List FClause}{k:Nat}{x:Pick}(h:x∈hcl pred i k l):x.rule=i∧∃ j:Nat,x.alt=((k+j:Nat):Int)∧j<l.length:=by
 induction l generalizing k with
 | nil=>cases h
 | cons c r ih =>
   simp only [hcl,List.mem_append] at h
   rcases h with h | h
   ·split at h
    ·simp at h;subst h;exact ⟨rfl,0,by simp,by simp⟩
    ·cases h
   ·obtain ⟨h1,j,h2,h3⟩:=ih h
    exact ⟨h1,j+1,by rw [h2];congr 1;omega,by simpa using h3⟩
theorem Kq (pred:Str)(i:Nat)(l:List FClause)(k:Nat):(hcl pred i k l).Pairwise (fun x y=>U2 x y<0):=by
 induction l generalizing k with
 | nil=>exact .nil
 | cons c r ih =>
   simp only [hcl]
   rw [List.pairwise_append]
   refine ⟨by split<;>simp,ih _,fun x hx y hy=>?_⟩
   split at hx
   ·simp at hx;subst hx
    obtain ⟨h1,j,h2,_⟩:=JJ hy
    rw [UT];refine .inr ⟨h1.symm,?_⟩;rw [h2];simp;omega
   ·cases hx
theorem S6 {f:Flat}{pred:Str}{i:Nat}{n:Int}{x:Pick}(h:x∈XE f pred i n):x.rule=i∧∃ u,f.groups[n.toNat]?=some u∧0≤n∧∃ j:Nat,x.alt=(j:Int)∧j<u.alts.length:=by
 unfold XE at h
 split at h
 ·split at h
  ·rename_i u hu
   obtain ⟨h1,j,h2,h3⟩:=JJ h
   exact ⟨h1,u,hu,by assumption,j,by simpa using h2,h3⟩
  ·cases h
 ·cases h
theorem JG {f:Flat}{pred:Str}{l:List Int}{k:Nat}{x:Pick}(h:x∈hrl f pred k l):∃ (i:Nat) (n:Int),l[i]?=some n∧x.rule=((k+i:Nat):Int)∧∃ u,f.groups[n.toNat]?=some u∧0≤n∧∃ j:Nat,x.alt=(j:Int)∧j<u.alts.length:=by
 induction l generalizing k with
 | nil=>cases h
 | cons c r ih =>
   simp only [hrl,List.mem_append] at h
   rcases h with h | h
   ·obtain ⟨h1,h2⟩:=S6 h
    exact ⟨0,c,rfl,by simpa using h1,h2⟩
   ·obtain ⟨i,n,h1,h2,h3⟩:=ih h
    exact ⟨i+1,n,by simpa using h1,by rw [h2];congr 1;omega,h3⟩
theorem Kp (f:Flat)(pred:Str)(l:List Int)(k:Nat):(hrl f pred k l).Pairwise (fun x y=>U2 x y<0):=by
 induction l generalizing k with
 | nil=>exact .nil
 | cons c r ih =>
   simp only [hrl]
   rw [List.pairwise_append]
   refine ⟨?_,ih _,fun x hx y hy=>?_⟩
   ·unfold XE
    split
    ·split
     ·exact Kq _ _ _ _
     ·exact .nil
    ·exact .nil
   ·obtain ⟨h1,_⟩:=S6 hx
    obtain ⟨i,n,_,h2,_⟩:=JG hy
    rw [UT];refine .inl ?_;rw [h1,h2];omega
theorem Nh (f:Flat)(pred:Str):(YI f pred).Pairwise (fun x y=>U2 x y<0):=Kp f pred f.rules 0
theorem MC {f:Flat}{pred:Str}{x:Pick}(h:x∈YI f pred):∃ (i j:Nat) (n:Int) (u:FGroup) (c:FClause),x=⟨i,j⟩∧f.rules[i]?=some n∧0≤n∧f.groups[n.toNat]?=some u∧u.alts[j]?=some c∧Wa f x=some c:=by
 obtain ⟨i,n,h1,h2,u,h3,h4,j,h5,h6⟩:=JG h
 obtain ⟨xr,xa⟩:=x
 simp only [Nat.zero_add] at h2 h5
 subst h2;subst h5
 refine ⟨i,j,n,u,u.alts[j],rfl,h1,h4,h3,List.getElem?_eq_getElem h6,?_⟩
 simp only [Wa,Int.toNat_natCast,h1,h3,List.getElem?_eq_getElem h6]
end Go.Vx
end
section
set_option maxRecDepth 100000
namespace Go.Vx
open Go.Proofs
theorem Fp:((0:Int)<((2:Nat):Int))=True:=by simp
theorem Fo:((1:Int)<((2:Nat):Int))=True:=by simp
theorem tn0:Int.toNat 0=0:=rfl
theorem tn1:Int.toNat 1=1:=rfl
theorem OR (f:Flat)(pred:Str)(hh:(YI f pred).length≤137438953472):Pur Tryz.prog 51 [.agg f.emb,vs pred] (.tup [.list .none 3 (cC (Z1 f pred).1),vi ((Z1 f pred).2.1:Nat),vi (Z1 f pred).2.2]):=by
 intro σ
 refine Zj.nodup (by kernel_rfl) (fun hnd=>?_)
 refine Zj.ok (by kernel_rfl) (fun hok=>?_)
 have hf:=hok _ List.mem_cons_self
 clear hok
 have hgr:=hf.agg (c:=.list .none 2 (cO f.groups)) (by simp [Flat.emb])
 have hlr:=(hf.agg (c:=.list .none 1 (Yz f.rules)) (by simp [Flat.emb])).len
 rw [ZP] at hlr
 have hw:∀ j:Nat,j≤137438953472→IntKind.i64.wrap ((j:Int)+1)=((j+1:Nat):Int):=fun j hj=>Zp (by omega) (by omega)
 have hchk:=Nr f
 have hhd:=Cu f pred hh
 have hsort:=Nh f pred
 have hat:=fun x (hx:x∈YI f pred)=>MC hx
 have hrr:Z1 f pred=if U4 f≠0 then ([],0,U4 f) else match ZY f (YI f pred) [] 0 with
  | none=>([],0,1)
  | some (out,n)=>if out=[] then ([],0,3) else (out,n,0):=rfl
 have hlen0:=fun (l:List Pick) (q:List Row×Nat) (h:ZY f l [] 0=some q)=>TL f l [] 0 q h
 generalize Z1 f pred=RR at hrr ⊢
 generalize YI f pred=H at *
 simp only [Flat.emb] at hchk hhd ⊢
 refine Zc [] [(9,15,1),(17,5,0)] Tryz.func51 rfl (by kernel_rfl) ?_;rw [Tryz.ntmps51,Tryz.results51]
 refine gP ?_
 refine hchk.use ?_
 by_cases e0:U4 f=0
 ·rw [if_neg (by simpa using e0)] at hrr
  have q0:(U4 f=0)=True:=eq_true e0
  try simp only [go_sem,Int.reduceEq,Int.reduceLT,Int.reduceLE,↓reduceIte,Nat.reduceEqDiff,Nat.reduceAdd,Nat.reduceSub,Nat.reduceLT,Nat.reduceLeDiff,Nat.reduceMul,reduceCtorEq,Xs,q0,decide_true]
  refine hhd.use ?_
  refine gK ?_
  refine Zv (mu:=[]) (dr:=[(9,15,1),(17,5,0)]) [4,5,6,8,9,11,12,13,15,25,26,27,28,29,30,31,32,33,34,35,36,37,38,39,40,41,42,43,44,45,46,47,48,49,50,51,52,53,54,55,56,57,58,59,60,61,62,63,64,65,66,67,68,69,70,71,72,73,74,75,76,77,78,79,80,81,82,83,84,85,86,87,88] (fun x:Nat×List Row×Nat×AV×Store=>[(25,vi x.1),(9,vi (x.2.2.1:Nat)),(8,x.2.2.2.1)]) (fun x=>x.2.2.2.2) (fun x=>x.1≤H.length∧ZY f (H.take x.1) [] 0=some (x.2.1,x.2.2.1)∧LV σ x.2.2.2.2 x.2.2.2.1 3 (cC x.2.1)∧Has σ x.2.2.2.2) (fun x=>H.length-x.1) (0,[],0,.list .full 0 [],σ) (by kernel_rfl) ⟨by omega,rfl,LV.nil _ _ _,.refl _⟩ ⟨.refl _,.refl _,.refl _,trivial⟩ (.refl _) ?_
  rintro ⟨i,out,n,v,S⟩ ⟨i1,i2,i3,i4⟩
  simp only at i1 i2 i3 i4
  have i3':=i3
  obtain ⟨rt,sz,hv,_,_⟩:=i3'
  subst hv
  have hol:=congrArg List.length (hlen0 _ _ i2)
  rw [List.length_map,List.map_nil,List.nil_append,List.length_take] at hol
  simp only at hol
  refine gK ?_
  refine ⟨fun h1=>⟨by omega,h1,fun c hc=>?_⟩,fun h1=>?_⟩
  ·rw [Int.toNat_natCast] at hc
   obtain ⟨x,hx,rfl⟩:=dj hc
   have hst:ZY f (H.take (i+1)) [] 0=ZY f [x] out n:=by
    rw [List.take_add_one,hx,Option.toList_some,TN,i2];rfl
   have hsp:=Ys hx
   have hno:ZY f [x] out n=none→RR=([],0,1):=fun h=>by
    rw [hrr]
    have:=List.take_append_drop (i+1) H
    rw [← this,TN,hst,h];rfl
   obtain ⟨ri,ai,m,u,C,rfl,hr,hm0,hu,hC,hcat⟩:=hat x (List.mem_of_getElem? hx)
   have hlu:=(hgr.mem (e:=u.emb) (by rw [cO];exact List.mem_map_of_mem (List.mem_of_getElem? hu))).agg (c:=.list .none 7 (cK u.alts)) (by simp [FGroup.emb])
   have hla:=((hlu.mem (e:=C.emb) (by rw [cK];exact List.mem_map_of_mem (List.mem_of_getElem? hC))).agg (c:=.list .none 4 (cH C.args)) (by simp [FClause.emb])).len
   rw [ci] at hla
   have hlp:ZY f [⟨ri,ai⟩] out n=if (0<out.length∧C.args.length≠n)∨8<C.args.length then none else some (out++[⟨⟨ri,ai⟩,C.args.map Yh⟩],C.args.length):=by
    simp only [ZY,hcat]
   try simp only [go_sem,Int.reduceEq,Int.reduceLT,Int.reduceLE,↓reduceIte,Nat.reduceEqDiff,Nat.reduceAdd,Nat.reduceSub,Nat.reduceLT,Nat.reduceLeDiff,Nat.reduceMul,reduceCtorEq,Xs,Pick.emb]
   intro b11 hb11
   try simp only [go_sem,Int.reduceEq,Int.reduceLT,Int.reduceLE,↓reduceIte,Nat.reduceEqDiff,Nat.reduceAdd,Nat.reduceSub,Nat.reduceLT,Nat.reduceLeDiff,Nat.reduceMul,reduceCtorEq,Xs,hb11]
   refine ⟨by decide,?_⟩
   try simp only [go_sem,Int.reduceEq,Int.reduceLT,Int.reduceLE,↓reduceIte,Nat.reduceEqDiff,Nat.reduceAdd,Nat.reduceSub,Nat.reduceLT,Nat.reduceLeDiff,Nat.reduceMul,reduceCtorEq,Xs,Int.toNat_zero,Nat.zero_mul,List.drop_zero,List.head?_cons,ZP]
   have hri:ri<f.rules.length:=(List.getElem?_eq_some_iff.1 hr).1
   have hml:m.toNat<f.groups.length:=(List.getElem?_eq_some_iff.1 hu).1
   have hal:ai<u.alts.length:=(List.getElem?_eq_some_iff.1 hC).1
   refine ⟨by omega,by omega,fun c hc=>?_⟩
   obtain rfl:[vi m]=c:=by
    obtain ⟨n',h1,rfl⟩:=Yo hc
    rw [Int.toNat_natCast,hr] at h1;injection h1 with h1;rw [h1]
   try simp only [go_sem,Int.reduceEq,Int.reduceLT,Int.reduceLE,↓reduceIte,Nat.reduceEqDiff,Nat.reduceAdd,Nat.reduceSub,Nat.reduceLT,Nat.reduceLeDiff,Nat.reduceMul,reduceCtorEq,Xs,ck]
   refine ⟨by omega,by omega,fun c hc=>?_⟩
   obtain ⟨u',hu',rfl⟩:=cT hc
   obtain rfl:u=u':=by rw [hu] at hu';injection hu'
   try simp only [go_sem,Int.reduceEq,Int.reduceLT,Int.reduceLE,↓reduceIte,Nat.reduceEqDiff,Nat.reduceAdd,Nat.reduceSub,Nat.reduceLT,Nat.reduceLeDiff,Nat.reduceMul,reduceCtorEq,Xs,FGroup.emb,cw]
   refine ⟨by decide,?_⟩
   try simp only [go_sem,Int.reduceEq,Int.reduceLT,Int.reduceLE,↓reduceIte,Nat.reduceEqDiff,Nat.reduceAdd,Nat.reduceSub,Nat.reduceLT,Nat.reduceLeDiff,Nat.reduceMul,reduceCtorEq,Xs,show Int.toNat 1=1 from rfl,Nat.mul_one,List.drop_succ_cons,List.drop_zero,List.head?_cons,cw]
   refine ⟨by omega,by omega,fun c hc=>?_⟩
   obtain ⟨C',hC',rfl⟩:=cZ hc
   obtain rfl:C=C':=by rw [Int.toNat_natCast,hC] at hC';injection hC'
   try simp only [go_sem,Int.reduceEq,Int.reduceLT,Int.reduceLE,↓reduceIte,Nat.reduceEqDiff,Nat.reduceAdd,Nat.reduceSub,Nat.reduceLT,Nat.reduceLeDiff,Nat.reduceMul,reduceCtorEq,Xs,FClause.emb]
   intro b12 hb12
   have n12:b12≠b11:=Ne.symm hb12.1
   refine ⟨.inr (.cons hb12 _),?_⟩
   by_cases bz:0<(out.length:Int)
   ·have fz:(0<(out.length:Int))=True:=eq_true bz
    by_cases bn:(C.args.length:Int)=n
    ·have fn:((C.args.length:Int)=n)=True:=eq_true bn
     by_cases b8:8<(C.args.length:Int)
     ·have f8:(8<(C.args.length:Int))=True:=eq_true b8
      have hb:=hno (by rw [hlp,if_pos (.inr (by omega))])
      refine ep ?_
      rw [hb]
      exact fE
     ·have f8:(8<(C.args.length:Int))=False:=eq_false b8
      have hgood:ZY f [⟨ri,ai⟩] out n=some (out++[⟨⟨ri,ai⟩,C.args.map Yh⟩],C.args.length):=by
       rw [hlp,if_neg (by omega)]
      refine ep ?_
      intro b13 hb13
      have n132:b13≠b12:=Ne.symm hb13.1
      have n131:b13≠b11:=Ne.symm hb13.2.1
      refine gA ?_
      obtain ⟨T,hT⟩:∃ T:Store,T=(b12,.cells [.list .none 2 (cJ C.vars),.list .none 2 (cJ C.locals),.list .none 1 (Yz C.path),vs C.name,.list .none 4 (cH C.args),.list .none 9 (cN C.goals),.list .none 1 (XA C.lasts)])::(b11,.cells [vi (ri:Int),vi (ai:Int)])::S:=⟨_,rfl⟩
      rw [← hT] at hb13 ⊢
      have hTS:Has σ T:=by rw [hT];exact (i4.cons _).cons _
      have oT:LV σ T (.list rt sz (cC out)) 3 (cC out):=by rw [hT];exact (i3.cons hb11 _).cons hb12 _
      refine Zv (mu:=[]) (dr:=[(9,15,1),(17,5,0)]) [15,72,73,74,75,76,77,78,79,80,81,82,83] (fun x:Nat×AV×Store=>[(72,vi x.1)]) (fun x=>x.2.2) (fun x=>x.1≤C.args.length∧x.2.2.get b13=some (.cells [vi (ri:Int),vi (ai:Int),x.2.1])∧LV T x.2.2 x.2.1 2 (cA ((C.args.take x.1).map Yh))∧Has T x.2.2∧LV σ x.2.2 (.list rt sz (cC out)) 3 (cC out)) (fun x=>C.args.length-x.1) (0,.list .full 0 [],(b13,.cells [vi (ri:Int),vi (ai:Int),.list .full 0 []])::T) (by kernel_rfl) ⟨by omega,Zi _ _ _,LV.nil _ _ _,(Has.refl T).cons _,oT.cons hb13 _⟩ ⟨.refl _,trivial⟩ (.refl _) ?_
      rintro ⟨j,vc,S2⟩ ⟨j1,j2,j3,j4,j5⟩
      simp only at j1 j2 j3 j4 j5
      refine gJ ?_
      refine ⟨fun h1=>⟨by omega,h1,fun c hc=>?_⟩,fun h1=>?_⟩
      ·rw [Int.toNat_natCast] at hc
       obtain ⟨a,ha,rfl⟩:=cR hc
       have hrc:=Qa a
       have hcl:(C.args.take (j+1)).map Yh=(C.args.take j).map Yh++[Yh a]:=by rw [List.take_add_one,ha,Option.toList_some,List.map_append];rfl
       generalize Yh a=k at hrc hcl
       obtain ⟨ka,na,sa,la⟩:=a
       simp only [co] at hrc
       refine gI ?_
       intro b15 hb15
       have n15:b15≠b13:=fun e=>by have:=Zm hb15;rw [e,j2] at this;cases this
       refine gC ?_
       refine hrc.head ?_
       refine fO ?_
       refine ⟨rfl,(j3.cons hb15 _).append2 rfl (by decide) (by simp [cA];omega) rfl (by simp) (j4.cons _) (fun v' S' hv' hk1 hk2 hS'=>?_)⟩
       have g13:=hk2 b13 _ (by rw [Za n15];exact j2) (by simp)
       have k15:Yw T S2 S':=(Yw.cons hb15 _).trans hk1
       refine fX ?_
       rw [hw j (by omega)]
       have f13:Zx T b13:=hb13
       refine .mk (j+1,v',S'.set b13 (.cells [vi (ri:Int),vi (ai:Int),v'])) ⟨by simp only;omega,Zd g13,?_,hS'.set f13 _,oT.keepIn j5 (k15.trans (.set f13 _))⟩ (by simp only;omega) ⟨.refl _,trivial⟩ (by repeat first | exact Zf.turn _ rfl | refine Zf.put rfl ?_) (.refl _)
       simp only
       rw [hcl]
       have:cA ((C.args.take j).map Yh++[k])=cA ((C.args.take j).map Yh)++[[vb k.any,vs k.name]]:=by simp [cA,Cls.emb]
       rw [this]
       exact hv'.set g13 (by simp) _
      ·have hjr:C.args.take j=C.args:=List.take_of_length_le (by omega)
       rw [hjr] at j3
       refine gh ?_
       refine ⟨rfl,j5.append2 rfl (by decide) (by rw [cE,List.length_singleton];omega) rfl (by simp) (fun p hp=>j4 p (hTS p hp)) (fun v' S' hv' hk1 hk2 hS'=>?_)⟩
       obtain ⟨v2,hw2,hv2⟩:=hv'.last (e':=[vi (ri:Int),vi (ai:Int),.list .none 2 (cA (C.args.map Yh))]) rfl (fun jj c c' hc hc'=>by
        match jj with
        | 0=>simp at hc hc';subst hc;subst hc';exact .refl _
        | 1=>simp at hc hc';subst hc;subst hc';exact .refl _
        | 2=>simp at hc hc';subst hc;subst hc';exact j3.wk
        | jj+3=>simp at hc)
       refine gj ?_
       rw [hw i (by omega)]
       refine .mk (i+1,out++[⟨⟨ri,ai⟩,C.args.map Yh⟩],C.args.length,v2,S') ⟨by simp only;omega,by simp only;rw [hst,hgood],?_,hS'⟩ (by simp only;omega) ⟨.refl _,.refl _,hw2,trivial⟩ (by repeat first | exact Zf.turn _ rfl | refine Zf.put rfl ?_ | refine cL _ rfl rfl ?_) (.refl _)
       have:cC (out++[⟨⟨ri,ai⟩,C.args.map Yh⟩])=cC out++[[vi (ri:Int),vi (ai:Int),.list .none 2 (cA (C.args.map Yh))]]:=by simp [cC,Row.emb]
       simp only
       rw [this]
       exact hv2
    ·have fn:((C.args.length:Int)=n)=False:=eq_false bn
     have f8:=fn
     have hb:=hno (by rw [hlp,if_pos (.inl ⟨by omega,by omega⟩)])
     refine ep ?_
     rw [hb]
     exact fE
   ·have fz:(0<(out.length:Int))=False:=eq_false bz
    have fn:=fz
    by_cases b8:8<(C.args.length:Int)
    ·have f8:(8<(C.args.length:Int))=True:=eq_true b8
     have hb:=hno (by rw [hlp,if_pos (.inr (by omega))])
     refine ep ?_
     rw [hb]
     exact fE
    ·have f8:(8<(C.args.length:Int))=False:=eq_false b8
     have hgood:ZY f [⟨ri,ai⟩] out n=some (out++[⟨⟨ri,ai⟩,C.args.map Yh⟩],C.args.length):=by
      rw [hlp,if_neg (by omega)]
     refine ep ?_
     intro b13 hb13
     have n132:b13≠b12:=Ne.symm hb13.1
     have n131:b13≠b11:=Ne.symm hb13.2.1
     refine gA ?_
     obtain ⟨T,hT⟩:∃ T:Store,T=(b12,.cells [.list .none 2 (cJ C.vars),.list .none 2 (cJ C.locals),.list .none 1 (Yz C.path),vs C.name,.list .none 4 (cH C.args),.list .none 9 (cN C.goals),.list .none 1 (XA C.lasts)])::(b11,.cells [vi (ri:Int),vi (ai:Int)])::S:=⟨_,rfl⟩
     rw [← hT] at hb13 ⊢
     have hTS:Has σ T:=by rw [hT];exact (i4.cons _).cons _
     have oT:LV σ T (.list rt sz (cC out)) 3 (cC out):=by rw [hT];exact (i3.cons hb11 _).cons hb12 _
     refine Zv (mu:=[]) (dr:=[(9,15,1),(17,5,0)]) [15,72,73,74,75,76,77,78,79,80,81,82,83] (fun x:Nat×AV×Store=>[(72,vi x.1)]) (fun x=>x.2.2) (fun x=>x.1≤C.args.length∧x.2.2.get b13=some (.cells [vi (ri:Int),vi (ai:Int),x.2.1])∧LV T x.2.2 x.2.1 2 (cA ((C.args.take x.1).map Yh))∧Has T x.2.2∧LV σ x.2.2 (.list rt sz (cC out)) 3 (cC out)) (fun x=>C.args.length-x.1) (0,.list .full 0 [],(b13,.cells [vi (ri:Int),vi (ai:Int),.list .full 0 []])::T) (by kernel_rfl) ⟨by omega,Zi _ _ _,LV.nil _ _ _,(Has.refl T).cons _,oT.cons hb13 _⟩ ⟨.refl _,trivial⟩ (.refl _) ?_
     rintro ⟨j,vc,S2⟩ ⟨j1,j2,j3,j4,j5⟩
     simp only at j1 j2 j3 j4 j5
     refine gJ ?_
     refine ⟨fun h1=>⟨by omega,h1,fun c hc=>?_⟩,fun h1=>?_⟩
     ·rw [Int.toNat_natCast] at hc
      obtain ⟨a,ha,rfl⟩:=cR hc
      have hrc:=Qa a
      have hcl:(C.args.take (j+1)).map Yh=(C.args.take j).map Yh++[Yh a]:=by rw [List.take_add_one,ha,Option.toList_some,List.map_append];rfl
      generalize Yh a=k at hrc hcl
      obtain ⟨ka,na,sa,la⟩:=a
      simp only [co] at hrc
      refine gI ?_
      intro b15 hb15
      have n15:b15≠b13:=fun e=>by have:=Zm hb15;rw [e,j2] at this;cases this
      refine gC ?_
      refine hrc.head ?_
      refine fO ?_
      refine ⟨rfl,(j3.cons hb15 _).append2 rfl (by decide) (by simp [cA];omega) rfl (by simp) (j4.cons _) (fun v' S' hv' hk1 hk2 hS'=>?_)⟩
      have g13:=hk2 b13 _ (by rw [Za n15];exact j2) (by simp)
      have k15:Yw T S2 S':=(Yw.cons hb15 _).trans hk1
      refine fX ?_
      rw [hw j (by omega)]
      have f13:Zx T b13:=hb13
      refine .mk (j+1,v',S'.set b13 (.cells [vi (ri:Int),vi (ai:Int),v'])) ⟨by simp only;omega,Zd g13,?_,hS'.set f13 _,oT.keepIn j5 (k15.trans (.set f13 _))⟩ (by simp only;omega) ⟨.refl _,trivial⟩ (by repeat first | exact Zf.turn _ rfl | refine Zf.put rfl ?_) (.refl _)
      simp only
      rw [hcl]
      have:cA ((C.args.take j).map Yh++[k])=cA ((C.args.take j).map Yh)++[[vb k.any,vs k.name]]:=by simp [cA,Cls.emb]
      rw [this]
      exact hv'.set g13 (by simp) _
     ·have hjr:C.args.take j=C.args:=List.take_of_length_le (by omega)
      rw [hjr] at j3
      refine gh ?_
      refine ⟨rfl,j5.append2 rfl (by decide) (by rw [cE,List.length_singleton];omega) rfl (by simp) (fun p hp=>j4 p (hTS p hp)) (fun v' S' hv' hk1 hk2 hS'=>?_)⟩
      obtain ⟨v2,hw2,hv2⟩:=hv'.last (e':=[vi (ri:Int),vi (ai:Int),.list .none 2 (cA (C.args.map Yh))]) rfl (fun jj c c' hc hc'=>by
       match jj with
       | 0=>simp at hc hc';subst hc;subst hc';exact .refl _
       | 1=>simp at hc hc';subst hc;subst hc';exact .refl _
       | 2=>simp at hc hc';subst hc;subst hc';exact j3.wk
       | jj+3=>simp at hc)
      refine gj ?_
      rw [hw i (by omega)]
      refine .mk (i+1,out++[⟨⟨ri,ai⟩,C.args.map Yh⟩],C.args.length,v2,S') ⟨by simp only;omega,by simp only;rw [hst,hgood],?_,hS'⟩ (by simp only;omega) ⟨.refl _,.refl _,hw2,trivial⟩ (by repeat first | exact Zf.turn _ rfl | refine Zf.put rfl ?_ | refine cL _ rfl rfl ?_) (.refl _)
      have:cC (out++[⟨⟨ri,ai⟩,C.args.map Yh⟩])=cC out++[[vi (ri:Int),vi (ai:Int),.list .none 2 (cA (C.args.map Yh))]]:=by simp [cC,Row.emb]
      simp only
      rw [this]
      exact hv2
  ·have hir:H.take i=H:=List.take_of_length_le (by omega)
   rw [hir] at i2
   rw [i2] at hrr
   simp only at hrr
   by_cases he:out=[]
   ·rw [if_pos he] at hrr
    rw [hrr]
    have fz:((out.length:Int)=0)=True:=eq_true (by rw [he];rfl)
    try simp only [go_sem,Int.reduceEq,Int.reduceLT,Int.reduceLE,↓reduceIte,Nat.reduceEqDiff,Nat.reduceAdd,Nat.reduceSub,Nat.reduceLT,Nat.reduceLeDiff,Nat.reduceMul,reduceCtorEq,Xs,cE,fz,decide_true]
    exact .mk (.tup3 (.nilA _ _ _) (.refl _) (.refl _)) (i4.sub hnd) ⟨rfl,rfl⟩
   ·rw [if_neg he] at hrr
    rw [hrr]
    have hpos:0<out.length:=List.length_pos_iff.2 he
    have fz:((out.length:Int)=0)=False:=eq_false (by omega)
    try simp only [go_sem,Int.reduceEq,Int.reduceLT,Int.reduceLE,↓reduceIte,Nat.reduceEqDiff,Nat.reduceAdd,Nat.reduceSub,Nat.reduceLT,Nat.reduceLeDiff,Nat.reduceMul,reduceCtorEq,Xs,cE,fz,decide_false]
    have hop:=hlen0 _ _ i2
    simp only [List.map_nil,List.nil_append] at hop
    have hpw:out.Pairwise (fun x y=>U2 x.pick y.pick<0):=by rw [← hop,List.pairwise_map] at hsort;exact hsort
    obtain ⟨rt',s',hveq,hz,ht⟩:=i3
    injection hveq with hv1 hv2
    subst hv1;subst hv2
    rcases ht with ⟨_,hn⟩ | ⟨b,e,c,rfl,rfl,hg,_⟩
    ·exact absurd (by have:=congrArg List.length hn;rw [cE] at this;exact List.length_eq_zero_iff.1 this) he
    ·refine (LE out b e c S he hg hpw).only ?_
     refine gP ?_
     exact .mk (.tup3 (.list _ _ _) (.refl _) (.refl _)) (i4.sub hnd) ⟨rfl,rfl⟩
 ·rw [if_pos (by simpa using e0)] at hrr
  have q0:(U4 f=0)=False:=eq_false e0
  try simp only [go_sem,Int.reduceEq,Int.reduceLT,Int.reduceLE,↓reduceIte,Nat.reduceEqDiff,Nat.reduceAdd,Nat.reduceSub,Nat.reduceLT,Nat.reduceLeDiff,Nat.reduceMul,reduceCtorEq,Xs,q0,decide_false]
  rw [hrr]
  exact .mk (.tup3 (.nilA _ _ _) (.refl _) (.refl _)) (.refl _) ⟨rfl,rfl⟩
end Go.Vx
end
