/- Part Q29 of the proof of treeCaughtProved: the walk of the program on abstract values, and the plain law. -/
import Derived.Test.YtmedmnondjmleaaGreatQ28
import Derived.Test.YtmedmnondjmleaaGreatQSortLay
set_option linter.unusedVariables false
set_option linter.unusedSimpArgs false
section
set_option maxRecDepth 100000
namespace Go.Vx
open Go.Proofs Go.Sort Go.Shelf
theorem grow_of_ev {w w':World}(h:Ev [] w [] w'):w'=grow (w.drewN (w'.drawn-w.drawn)) (w'.heap.extract w.heap.size w'.heap.size):=by
  have hh:w'.heap=w.heap++w'.heap.extract w.heap.size w'.heap.size:=by
    apply Array.ext_getElem?
    intro i
    rw [Array.getElem?_append]
    by_cases hi:i<w.heap.size
    · rw [if_pos hi]
      exact h.obj i hi (fun o ⟨x,hx,_⟩=>by cases hx)
    · rw [if_neg hi,Array.getElem?_extract]
      have:=h.size
      by_cases h2:i<w'.heap.size
      · rw [if_pos (by omega)];congr 1;omega
      · rw [if_neg (by omega),Array.getElem?_eq_none (by omega)]
  obtain ⟨hp,tp,dr,os,ou⟩:=w'
  have h1:=h.os
  have h2:=h.tape
  have h3:=h.output
  have h4:=h.drawn
  simp only at h1 h2 h3 h4 hh
  simp only [grow,World.drewN]
  rw [← hh,h1,h2,h3]
  congr 1
  omega
theorem ev_grow {σ:Store}{w:World}{n:Nat}{os:Array Obj}(h:StoreOk σ w):StoreOk σ (grow (Sort.ahead w n) os)∧Ev σ w σ (grow (Sort.ahead w n) os):=by
  have hg:∀ b,b<w.heap.size→(grow (Sort.ahead w n) os).heap[b]?=w.heap[b]?:=fun b hb=>by
    show (w.heap++os)[b]?=_
    rw [Array.getElem?_append,if_pos hb]
  have hb:∀ b x,(b,x)∈σ→b<w.heap.size:=fun b x hx=>by
    by_cases hlt:b<w.heap.size
    · exact hlt
    · exact absurd rfl (fresh_mem (h.fresh (Nat.le_of_not_lt hlt)) hx)
  have ev:Ev σ w σ (grow (Sort.ahead w n) os):={
    os:=rfl,tape:=rfl,output:=rfl
    size:=by show w.heap.size≤(w.heap++os).size;simp
    cell:=fun b o hb _=>by unfold World.cell?;simp only;rw [hg b hb]
    obj:=fun b hb _=>hg b hb
    live:=fun b o _ hl=>hl
    drawn:=by show w.drawn≤w.drawn+n;omega }
  exact ⟨h.keep ev (fun b x hx=>hg b (hb b x hx)),ev⟩
/-- A row's cells: two numbers and whatever. -/
structure RowV where
  rule:Int
  alt:Int
  rest:Value
  one:rest.oneCell'=true
instance:Inhabited RowV:=⟨⟨0,0,.bool false,rfl⟩⟩
def RowV.enc (x:RowV):List Value:=[.int .i64 x.rule,.int .i64 x.alt,x.rest]
def RowV.pick (x:RowV):Pick:=⟨x.rule,x.alt⟩
def RowV.cmp (x y:RowV):Int:=cmpP x.pick y.pick
theorem rows1_any (x y:RowV):Pur Tryz.prog 95 [.val (.agg x.enc.toArray),.val (.agg y.enc.toArray)] (vi (x.cmp y)):=by
  intro σ
  have h:=comparePicks_c x.pick y.pick
  simp only [Pick.emb,RowV.pick] at h
  have key:ACalls Tryz.prog 95 [.agg [vi x.rule,vi x.alt,.val x.rest],.agg [vi y.rule,vi y.alt,.val y.rest]] σ (kOnly (vi (x.cmp y)) σ):=by
    refine acalls_of [] [] Tryz.func95 rfl (by kernel_rfl) ?_;rw [Tryz.ntmps95,Tryz.results95]
    try simp only [go_sem,seval,tb95]
    refine ⟨x.one,y.one,h.use ?_⟩
    try simp only [go_sem,seval,tb95]
    exact fin_same
  have wk:∀ z:RowV,Wk (.val (.agg z.enc.toArray)) (.agg [vi z.rule,vi z.alt,.val z.rest]):=fun z L w v hv=>by
    cases hv
    refine .agg _ _ rfl (fun i c v hc hv=>?_)
    match i with
    | 0=>simp [RowV.enc] at hc hv;subst hc;subst hv;exact .val _
    | 1=>simp [RowV.enc] at hc hv;subst hc;subst hv;exact .val _
    | 2=>simp [RowV.enc] at hc hv;subst hc;subst hv;exact .val _
    | i+3=>simp at hc
  exact key.wk ⟨wk x,wk y,trivial⟩
theorem cmpP_lt (a b:Pick):cmpP a b<0↔a.rule<b.rule∨(a.rule=b.rule∧a.alt<b.alt):=by
  unfold cmpP cmpI
  by_cases h1:a.rule<b.rule
  · simp [h1]
  · by_cases h2:b.rule<a.rule
    · simp [h1,h2];omega
    · have e:a.rule=b.rule:=by omega
      by_cases h3:a.alt<b.alt
      · simp [h3,e]
      · by_cases h4:b.alt<a.alt<;>simp [h3,h4,e]
theorem swo_row:SWO (ltOf RowV.cmp) where
  irrefl x:=by simp only [ltOf,RowV.cmp,decide_eq_false_iff_not,cmpP_lt];omega
  trans x y z h1 h2:=by simp only [ltOf,RowV.cmp,decide_eq_true_eq,cmpP_lt] at h1 h2 ⊢;omega
  ntrans x y z h1 h2:=by simp only [ltOf,RowV.cmp,decide_eq_false_iff_not,cmpP_lt] at h1 h2 ⊢;omega
theorem cmpLays_rows (b o n:Nat)(w:World):CmpLays Tryz.prog 95 #[] RowV.enc 3 RowV.cmp b o n w:=by
  intro m os dk _ x y
  have h:=(rows1_any x y []).2 (sortWorldK RowV.enc 3 w b o m dk os) #[.agg x.enc.toArray,.agg y.enc.toArray] ⟨by simp,by simp⟩ ⟨rfl,fun i a v ha hv=>by
    match i with
    | 0=>simp at ha hv;subst ha;subst hv;exact .val _
    | 1=>simp at ha hv;subst ha;subst hv;exact .val _
    | i+2=>simp at ha⟩
  refine h.mono fun e w' he=>?_
  cases e with
  | returned v =>
    obtain ⟨av,σ',⟨h1,rfl⟩,hv,_,hev⟩:=he
    injection h1 with h1;subst h1
    cases hv
    exact ⟨rfl,_,_,grow_of_ev hev⟩
  | panicked c=>obtain ⟨pv,σ',_,⟨h1,_⟩,_⟩:=he;cases h1
  | outgrown=>exact he.elim
theorem sorted_eq {d d':Array RowV}(hs:d.toList.Pairwise (fun x y=>x.cmp y<0))(hp:PermIn 0 d.size d d')(hs':SortedIn (ltOf RowV.cmp) 0 d.size d'):d'=d:=by
  obtain ⟨h1,_,h3⟩:=hp
  have e1:d'.extract 0 d.size=d':=by rw [← h1];simp
  have e2:d.extract 0 d.size=d:=by simp
  rw [e1,e2] at h3
  apply Array.toList_inj.1
  refine h3.eq_of_pairwise (le:=fun x y=>¬ y.cmp x<0) (fun a b ha hb h h'=>?_) ?_ ?_
  · have ha':=h3.mem_iff.1 ha
    by_cases hab:a=b
    · exact hab
    · exfalso
      have:∀ {l:List RowV},l.Pairwise (fun x y=>x.cmp y<0)→a∈l→b∈l→a.cmp b<0∨b.cmp a<0:=by
        intro l hl
        induction hl with
        | nil=>intro h;cases h
        | cons hx _ ih =>
          intro ha hb
          rcases List.mem_cons.1 ha with e1 | a1
          · rcases List.mem_cons.1 hb with e2 | b1
            · exact absurd (e1.trans e2.symm) hab
            · rw [e1];exact .inl (hx _ b1)
          · rcases List.mem_cons.1 hb with e2 | b1
            · rw [e2];exact .inr (hx _ a1)
            · exact ih a1 b1
      rcases this hs ha' hb with h2 | h2
      · exact h' h2
      · exact h h2
  · rw [List.pairwise_iff_getElem]
    intro i j hi hj hij
    have:=hs' i j (Nat.zero_le _) hij (by rw [← h1];simpa using hj)
    simp only [ltOf,decide_eq_false_iff_not] at this
    have hi':i<d'.size:=by simpa using hi
    have hj':j<d'.size:=by simpa using hj
    rw [getElem!_pos d' i hi',getElem!_pos d' j hj'] at this
    simpa using this
  · refine hs.imp fun {x y} h=>?_
    have h0:=swo_row.trans
    intro h2
    simp only [RowV.cmp,cmpP_lt] at h h2
    omega
theorem isAgg_of {P:Program}{T:TypeId}{b:Bool}(h:aggOf P T=some b)(w:World):(isAgg T).run P w=.ok b w:=run_isAgg' h w
theorem sortRows_c (l:List Row)(b e c:Nat)(σ:Store)(hne:l≠[])(gt:σ.get b=some (.tail e c))(hs:l.Pairwise (fun x y=>cmpP x.pick y.pick<0)) :
    ACalls Tryz.prog 94 [.list (.tip b e c) 3 (Row.embs l),.val (.func (.func 95) #[] #[])] σ (kOnly (.tup []) σ):=by
  refine ⟨by kernel_rfl,fun w vs hσ hv=>?_⟩
  obtain ⟨hl2,hvv⟩:=hv
  obtain ⟨v0,v1,rfl⟩:∃ v0 v1,vs=#[v0,v1]:=by
    obtain ⟨vl⟩:=vs
    match vl,hl2 with
    | [x,y],_=>exact ⟨x,y,rfl⟩
  have hv0:=hvv 0 _ v0 rfl rfl
  have hv1:=hvv 1 _ v1 rfl rfl
  cases hv1
  have hen:Row.embs l≠[]:=fun h=>hne (by have:=congrArg List.length h;rw [Row.embs_len] at this;exact List.length_eq_zero_iff.1 this)
  cases hv0 with
  | list _ _ _ cap a b' o rd hcap hlim hsz ha hr h1 h2 =>
  have ha':=ha hen
  obtain ⟨o',ho,_,_⟩:=hr
  rw [ha'] at ho
  injection ho with ho;injection ho with ho1 ho2 _
  subst ho1;subst ho2
  have hge:∀ (i:Nat) (hi:i<l.length),(Row.embs l)[i]?=some (l[i]).emb:=fun i hi=>by simp [Row.embs,hi]
  have hone:∀ (i:Nat) (hi:i<l.length),(rd (i * 3+2)).oneCell'=true:=fun i hi=>(h1 i _ 2 _ (hge i hi) rfl).2.2
  obtain ⟨d,hd⟩:∃ d:Array RowV,d=Array.ofFn (n:=l.length) fun i=>⟨l[i].pick.rule,l[i].pick.alt,rd (i * 3+2),hone i i.2⟩:=⟨_,rfl⟩
  have hds:d.size=l.length:=by rw [hd];simp
  have hdg:∀ (i:Nat) (hi:i<l.length),d[i]! = ⟨l[i].pick.rule,l[i].pick.alt,rd (i * 3+2),hone i hi⟩:=fun i hi=>by
    rw [getElem!_pos d i (by rw [hds];exact hi)];subst hd;simp
  obtain ⟨vs,T,hb,_⟩:=hσ.obj b' _ (get_mem gt)
  have hH:HoldsK RowV.enc 3 w b' o d:=by
    intro j hj
    rw [size_flatK,hds] at hj
    have hi:j / 3<l.length:=by omega
    rw [get_flatK _ _ _ j (by rw [hds];exact hj),hdg _ hi]
    have hc:j % 3<3:=Nat.mod_lt _ (by omega)
    have hj3:j / 3 * 3+j % 3=j:=by omega
    refine ⟨?_,by unfold World.frozen?;rw [hb];simp⟩
    have hcell:=fun cc h=>(h1 (j / 3) _ (j % 3) cc (hge _ hi) h).2.1
    have hval:=fun cc h=>h2 (j / 3) _ (j % 3) cc (hge _ hi) h
    rw [hj3] at hcell hval
    have h3:j % 3=0∨j % 3=1∨j % 3=2:=by omega
    rcases h3 with h3 | h3 | h3
    · rw [h3] at hcell hval ⊢
      rw [hcell _ rfl]
      have:=hval _ rfl
      generalize rd j=x at this
      cases this;rfl
    · rw [h3] at hcell hval ⊢
      rw [hcell _ rfl]
      have:=hval _ rfl
      generalize rd j=x at this
      cases this;rfl
    · rw [h3] at hcell ⊢
      rw [hcell _ rfl]
      have:j / 3 * 3+2=j:=by omega
      simp [RowV.enc,this]
  have hblk:b'<w.heap.size:=(Array.getElem?_eq_some_iff.1 hb).1
  have hpw:d.toList.Pairwise (fun x y=>x.cmp y<0):=by
    rw [hd,List.pairwise_iff_getElem]
    intro i j hi hj hij
    simp at hi hj
    have:=List.pairwise_iff_getElem.1 hs i j hi hj hij
    simpa [RowV.cmp,RowV.pick] using this
  have hcon:=AnyQ.slices_SortFunc Tryz.sortRows 3 (isAgg_of (by kernel_rfl)) (run_sizeOf' (by kernel_rfl)) RowV.enc (fun _=>rfl) (fun x v hv=>by
      simp [RowV.enc] at hv
      rcases hv with rfl | rfl | rfl
      · rfl
      · rfl
      · exact x.one) RowV.cmp swo_row 95 #[] b' o cap d w (enters_of Tryz.func95 (by kernel_rfl) rfl) (cmpLays_rows b' o d.size w) hH hblk (by rw [hds];rw [Row.embs_len] at hlim;simp only [lim] at hlim;omega)
  rw [ha',Row.embs_len]
  rw [hds] at hcon
  refine Calls.mono hcon fun en w' he=>?_
  obtain ⟨rfl,d',n,os,hp,hs',rfl⟩:=he
  rw [← hds] at hp hs'
  have hdd:=sorted_eq hpw hp hs'
  subst hdd
  unfold sortWorldK
  rw [show Sort.putRowK RowV.enc 3 (Sort.ahead w n) b' o d'=Sort.ahead w n from putRowK_self RowV.enc 3 _ b' o d' (holdsK_ahead RowV.enc 3 w n b' o d' hH)]
  obtain ⟨k1,k2⟩:=ev_grow (n:=n) (os:=os) hσ
  exact ⟨.tup [],σ,⟨rfl,rfl⟩,.tup [] [] rfl (fun i c v h=>by simp at h),k1,k2⟩
end Go.Vx
end
section
set_option maxRecDepth 100000
namespace Go.Vx
open Go.Proofs
theorem tb51:(szOf Tryz.prog 25=some 2)∧(aggOf Tryz.prog 25=some true)∧(elOf Tryz.prog 153=some 50)∧(szOf Tryz.prog 50=some 2)∧(aggOf Tryz.prog 50=some true)∧(zeroOf Tryz.prog 50=some (.agg #[(.int .i64 0),(.int .i64 0)]))∧(fOff Tryz.prog 25 0=some 0)∧(szOf Tryz.prog 22=some 1)∧(aggOf Tryz.prog 22=some false)∧(fOff Tryz.prog 25 1=some 1)∧(szOf Tryz.prog 23=some 1)∧(aggOf Tryz.prog 23=some false)∧(elOf Tryz.prog 50=none)∧(szOf Tryz.prog 3=some 1)∧(Tryz.prog.underlying 50=some (.array 2 3))∧(aggOf Tryz.prog 3=some false)∧(elOf Tryz.prog 23=some 3)∧(elOf Tryz.prog 22=some 129)∧(szOf Tryz.prog 129=some 2)∧(fOff Tryz.prog 129 1=some 1)∧(szOf Tryz.prog 127=some 1)∧(aggOf Tryz.prog 127=some false)∧(elOf Tryz.prog 127=some 132)∧(szOf Tryz.prog 132=some 7)∧(aggOf Tryz.prog 132=some true)∧(zeroOf Tryz.prog 132=some (.agg #[(.slice none 0 0),(.slice none 0 0),(.slice none 0 0),(.string ⟨#[]⟩),(.slice none 0 0),(.slice none 0 0),(.slice none 0 0)]))∧(fOff Tryz.prog 132 4=some 4)∧(szOf Tryz.prog 33=some 1)∧(aggOf Tryz.prog 33=some false)∧(zeroOf Tryz.prog 32=some (.agg #[(.int .i64 0),(.int .i64 0)]))∧(plsOf Tryz.prog 32=some [(0,1),(1,1)])∧(zeroOf Tryz.prog 110=some (.agg #[(.int .i64 0),(.int .i64 0),(.slice none 0 0)]))∧(plsOf Tryz.prog 110=some [(0,2),(2,1)])∧(szOf Tryz.prog 110=some 3)∧(elOf Tryz.prog 33=some 52)∧(szOf Tryz.prog 52=some 4)∧(aggOf Tryz.prog 52=some true)∧(zeroOf Tryz.prog 52=some (.agg #[(.int .i64 0),(.int .i64 0),(.string ⟨#[]⟩),(.slice none 0 0)]))∧(fOff Tryz.prog 110 1=some 2)∧(szOf Tryz.prog 108=some 1)∧(aggOf Tryz.prog 108=some false)∧(elOf Tryz.prog 108=some 107)∧(szOf Tryz.prog 107=some 2)∧(zeroOf Tryz.prog 107=some (.agg #[(.bool false),(.string ⟨#[]⟩)]))∧(aggOf Tryz.prog 110=some true)∧(elOf Tryz.prog 99=some 110)∧(Tryz.prog.underlying 153=some (.slice 50))∧(Tryz.prog.underlying 99=some (.slice 110))∧(Tryz.prog.underlying 33=some (.slice 52))∧(bytesOf Tryz.prog 107=some 24)∧(bytesOf Tryz.prog 110=some 40):=by
  refine ⟨?_,?_,?_,?_,?_,?_,?_,?_,?_,?_,?_,?_,?_,?_,?_,?_,?_,?_,?_,?_,?_,?_,?_,?_,?_,?_,?_,?_,?_,?_,?_,?_,?_,?_,?_,?_,?_,?_,?_,?_,?_,?_,?_,?_,?_,?_,?_,?_,?_,?_,?_⟩<;>first | trivial | kernel_rfl
/-- What is kept of all that an outer store names. -/
def KeptIn (T S S':Store):Prop:=∀ k x,(T.get k).isSome=true→S.get k=some x→S'.get k=some x
theorem KeptIn.refl (T S:Store):KeptIn T S S:=fun _ _ _ h=>h
theorem KeptIn.trans {T a b c:Store}(h:KeptIn T a b)(k:KeptIn T b c):KeptIn T a c:=fun i x hi hx=>k i x hi (h i x hi hx)
theorem KeptIn.cons {T S:Store}{b:Nat}(hb:Fresh S b)(x:AObj):KeptIn T S ((b,x)::S):=fun k y _ hk=>by rw [get_fresh hb (by rw [hk];rfl)];exact hk
theorem KeptIn.set {T S:Store}{b:Nat}(hb:Fresh T b)(x:AObj):KeptIn T S (S.set b x):=fun k y hs hk=>by rw [get_set_ne (fun e=>by rw [e,fresh_get hb] at hs;cases hs)];exact hk
theorem LV.keepIn {σ0 T S S':Store}{v:AV}{sz:Nat}{es es0:List (List AV)}(h0:LV σ0 T v sz es0)(h:LV σ0 S v sz es)(k:KeptIn T S S'):LV σ0 S' v sz es:=by
  obtain ⟨rt,s',rfl,hz,ht⟩:=h
  obtain ⟨rt0,s0,e0,hz0,ht0⟩:=h0
  injection e0 with e1 e2 e3
  subst e1;subst e2
  refine ⟨rt,s',rfl,hz,ht.imp id (fun ⟨b,e,c,h1,h2,h3,h4⟩=>?_)⟩
  subst h1
  rcases ht0 with ⟨q,_⟩ | ⟨b',e',c',q1,q2,q3,q4⟩
  · cases q
  · injection q1 with q1 q5 q6
    subst q1
    exact ⟨b,e,c,rfl,h2,k _ _ (by rw [q3];rfl) h3,h4⟩
theorem LV.append2 {sz by_:Nat}{z:Value}{σ0 S:Store}{v:AV}{es ys:List (List AV)}{r2:Rt}{s2:Nat}{K:AV→Store→Prop}(h:LV σ0 S v sz es)
    (hzs:z.cells.size=sz) (hb5:by_≤512) (hl:es.length+ys.length≤137438953472) (h2:s2=sz) (hne:ys≠[]) (hH:Has σ0 S) (k:∀ v' S',LV σ0 S' v' sz (es++ys)→KeptIn σ0 S S'→Kept S S'→Has σ0 S'→K v' S'):apZ (some sz) (some z) (some by_) v (.list r2 s2 ys) S K:=by
  obtain ⟨rt,s',rfl,hsz,ht⟩:=h
  have go:∀ (S1:Store) (b e c:Nat),(S1=S∨∃ b0 e0 c0,S.get b0=some (.tail e0 c0)∧Fresh σ0 b0∧S1=S.del b0)→Fresh S1 b→K (.list (.tip b e c) sz (es++ys)) ((b,.tail e c)::S1):=by
    intro S1 b e c hS1 hb
    have kept1:KeptIn σ0 S S1:=by
      intro k x hs hk
      rcases hS1 with rfl | ⟨b0,e0,c0,hg,hf,rfl⟩
      · exact hk
      · rw [get_del_ne (fun e=>by rw [e] at hs;rw [fresh_get hf] at hs;cases hs)];exact hk
    have kept2:Kept S S1:=by
      intro k x hk hx
      rcases hS1 with rfl | ⟨b0,e0,c0,hg,_,rfl⟩
      · exact hk
      · rw [get_del_ne (fun e=>by rw [e,hg] at hk;injection hk with hk;exact hx _ _ hk.symm)];exact hk
    have has1:Has σ0 S1:=by
      intro p hp
      rcases hS1 with rfl | ⟨b0,e0,c0,hg,hf,rfl⟩
      · exact hH p hp
      · obtain ⟨k,x⟩:=p
        exact mem_del (hH _ hp) (fresh_mem hf hp)
    exact k _ _ ⟨_,_,rfl,.inl rfl,.inr ⟨b,e,c,rfl,rfl,get_same _ _ _,has1.fresh hb⟩⟩ (kept1.trans (.cons hb _)) (kept2.trans (.cons hb _)) (has1.cons _)
  unfold apZ
  refine ⟨hzs,hb5,by simp only [lim];exact hl,hsz,.inl h2,?_⟩
  rcases ht with ⟨rfl,rfl⟩ | ⟨b0,e0,c0,rfl,rfl,hg,hf⟩
  · exact ⟨fun h=>absurd h hne,fun _ b e c hb=>go S b e c (.inl rfl) hb⟩
  · exact ⟨hg,rfl,fun b e c hb=>go _ b e c (.inr ⟨b0,e0,c0,hg,hf,rfl⟩) hb⟩
def clauseAt (f:Flat)(x:Pick):Option FClause :=
  match f.rules[x.rule.toNat]? with
  | some n=>match f.groups[n.toNat]? with
    | some u=>u.alts[x.alt.toNat]?
    | none=>none
  | none=>none
def rowsLoop (f:Flat):List Pick→List Row→Nat→Option (List Row×Nat)
  | [],out,n=>some (out,n)
  | x::r,out,n=>match clauseAt f x with
    | none=>none
    | some c=>if (0<out.length∧c.args.length≠n)∨8<c.args.length then none else rowsLoop f r (out++[⟨x,c.args.map rowCls⟩]) c.args.length
def rowsR (f:Flat)(pred:Str):List Row×Nat×Int :=
  if chkF f≠0 then ([],0,chkF f)
  else match rowsLoop f (headsS f pred) [] 0 with
    | none=>([],0,1)
    | some (out,n)=>if out=[] then ([],0,3) else (out,n,0)
theorem rowsLoop_app (f:Flat)(l m:List Pick)(out:List Row)(n:Nat):rowsLoop f (l++m) out n=(rowsLoop f l out n).bind fun q=>rowsLoop f m q.1 q.2:=by
  induction l generalizing out n with
  | nil=>rfl
  | cons x r ih =>
    simp only [List.cons_append,rowsLoop]
    cases clauseAt f x with
    | none=>rfl
    | some c =>
      simp only
      split
      · rfl
      · exact ih _ _
theorem rowsLoop_len (f:Flat)(l:List Pick)(out:List Row)(n:Nat)(q:List Row×Nat)(h:rowsLoop f l out n=some q):q.1.map Row.pick=out.map Row.pick++l:=by
  induction l generalizing out n with
  | nil=>simp only [rowsLoop,Option.some.injEq] at h;subst h;simp
  | cons x r ih =>
    simp only [rowsLoop] at h
    cases hc:clauseAt f x with
    | none=>rw [hc] at h;cases h
    | some c =>
      rw [hc] at h
      simp only at h
      split at h
      · cases h
      · rw [ih _ _ h];simp
theorem hcl_mem {pred:Str}{i:Nat}{l:List FClause}{k:Nat}{x:Pick}(h:x∈hcl pred i k l):x.rule=i∧∃ j:Nat,x.alt=((k+j:Nat):Int)∧j<l.length:=by
  induction l generalizing k with
  | nil=>cases h
  | cons c r ih =>
    simp only [hcl,List.mem_append] at h
    rcases h with h | h
    · split at h
      · simp at h;subst h;exact ⟨rfl,0,by simp,by simp⟩
      · cases h
    · obtain ⟨h1,j,h2,h3⟩:=ih h
      exact ⟨h1,j+1,by rw [h2];congr 1;omega,by simpa using h3⟩
theorem hcl_sorted (pred:Str)(i:Nat)(l:List FClause)(k:Nat):(hcl pred i k l).Pairwise (fun x y=>cmpP x y<0):=by
  induction l generalizing k with
  | nil=>exact .nil
  | cons c r ih =>
    simp only [hcl]
    rw [List.pairwise_append]
    refine ⟨by split<;>simp,ih _,fun x hx y hy=>?_⟩
    split at hx
    · simp at hx;subst hx
      obtain ⟨h1,j,h2,_⟩:=hcl_mem hy
      rw [cmpP_lt];refine .inr ⟨h1.symm,?_⟩;rw [h2];simp;omega
    · cases hx
theorem headsAt_mem {f:Flat}{pred:Str}{i:Nat}{n:Int}{x:Pick}(h:x∈headsAt f pred i n):x.rule=i∧∃ u,f.groups[n.toNat]?=some u∧0≤n∧∃ j:Nat,x.alt=(j:Int)∧j<u.alts.length:=by
  unfold headsAt at h
  split at h
  · split at h
    · rename_i u hu
      obtain ⟨h1,j,h2,h3⟩:=hcl_mem h
      exact ⟨h1,u,hu,by assumption,j,by simpa using h2,h3⟩
    · cases h
  · cases h
theorem hrl_mem {f:Flat}{pred:Str}{l:List Int}{k:Nat}{x:Pick}(h:x∈hrl f pred k l):∃ (i:Nat) (n:Int),l[i]?=some n∧x.rule=((k+i:Nat):Int)∧∃ u,f.groups[n.toNat]?=some u∧0≤n∧∃ j:Nat,x.alt=(j:Int)∧j<u.alts.length:=by
  induction l generalizing k with
  | nil=>cases h
  | cons c r ih =>
    simp only [hrl,List.mem_append] at h
    rcases h with h | h
    · obtain ⟨h1,h2⟩:=headsAt_mem h
      exact ⟨0,c,rfl,by simpa using h1,h2⟩
    · obtain ⟨i,n,h1,h2,h3⟩:=ih h
      exact ⟨i+1,n,by simpa using h1,by rw [h2];congr 1;omega,h3⟩
theorem hrl_sorted (f:Flat)(pred:Str)(l:List Int)(k:Nat):(hrl f pred k l).Pairwise (fun x y=>cmpP x y<0):=by
  induction l generalizing k with
  | nil=>exact .nil
  | cons c r ih =>
    simp only [hrl]
    rw [List.pairwise_append]
    refine ⟨?_,ih _,fun x hx y hy=>?_⟩
    · unfold headsAt
      split
      · split
        · exact hcl_sorted _ _ _ _
        · exact .nil
      · exact .nil
    · obtain ⟨h1,_⟩:=headsAt_mem hx
      obtain ⟨i,n,_,h2,_⟩:=hrl_mem hy
      rw [cmpP_lt];refine .inl ?_;rw [h1,h2];omega
theorem heads_sorted (f:Flat)(pred:Str):(headsS f pred).Pairwise (fun x y=>cmpP x y<0):=hrl_sorted f pred f.rules 0
theorem heads_at {f:Flat}{pred:Str}{x:Pick}(h:x∈headsS f pred):∃ (i j:Nat) (n:Int) (u:FGroup) (c:FClause),x=⟨i,j⟩∧f.rules[i]?=some n∧0≤n∧f.groups[n.toNat]?=some u∧u.alts[j]?=some c∧clauseAt f x=some c:=by
  obtain ⟨i,n,h1,h2,u,h3,h4,j,h5,h6⟩:=hrl_mem h
  obtain ⟨xr,xa⟩:=x
  simp only [Nat.zero_add] at h2 h5
  subst h2;subst h5
  refine ⟨i,j,n,u,u.alts[j],rfl,h1,h4,h3,List.getElem?_eq_getElem h6,?_⟩
  simp only [clauseAt,Int.toNat_natCast,h1,h3,List.getElem?_eq_getElem h6]
end Go.Vx
end
section
set_option maxRecDepth 100000
namespace Go.Vx
open Go.Proofs
theorem lt02:((0:Int)<((2:Nat):Int))=True:=by simp
theorem lt12:((1:Int)<((2:Nat):Int))=True:=by simp
theorem tn0:Int.toNat 0=0:=rfl
theorem tn1:Int.toNat 1=1:=rfl
theorem rows_c (f:Flat)(pred:Str)(hh:(headsS f pred).length≤137438953472):Pur Tryz.prog 51 [.agg f.emb,vs pred] (.tup [.list .none 3 (Row.embs (rowsR f pred).1),vi ((rowsR f pred).2.1:Nat),vi (rowsR f pred).2.2]):=by
  intro σ
  refine ACalls.nodup (by kernel_rfl) (fun hnd=>?_)
  refine ACalls.ok (by kernel_rfl) (fun hok=>?_)
  have hf:=hok _ List.mem_cons_self
  clear hok
  have hgr:=hf.agg (c:=.list .none 2 (FGroup.embs f.groups)) (by simp [Flat.emb])
  have hlr:=(hf.agg (c:=.list .none 1 (ints f.rules)) (by simp [Flat.emb])).len
  rw [ints_len] at hlr
  have hw:∀ j:Nat,j≤137438953472→IntKind.i64.wrap ((j:Int)+1)=((j+1:Nat):Int):=fun j hj=>wrap64 (by omega) (by omega)
  have hchk:=check_flat_c f
  have hhd:=heads_c f pred hh
  have hsort:=heads_sorted f pred
  have hat:=fun x (hx:x∈headsS f pred)=>heads_at hx
  have hrr:rowsR f pred=if chkF f≠0 then ([],0,chkF f) else match rowsLoop f (headsS f pred) [] 0 with
    | none=>([],0,1)
    | some (out,n)=>if out=[] then ([],0,3) else (out,n,0):=rfl
  have hlen0:=fun (l:List Pick) (q:List Row×Nat) (h:rowsLoop f l [] 0=some q)=>rowsLoop_len f l [] 0 q h
  generalize rowsR f pred=RR at hrr ⊢
  generalize headsS f pred=H at *
  simp only [Flat.emb] at hchk hhd ⊢
  refine acalls_of [] [(9,15,1),(17,5,0)] Tryz.func51 rfl (by kernel_rfl) ?_;rw [Tryz.ntmps51,Tryz.results51]
  try simp only [go_sem,Int.reduceEq,Int.reduceLT,Int.reduceLE,↓reduceIte,Nat.reduceEqDiff,Nat.reduceAdd,Nat.reduceSub,Nat.reduceLT,Nat.reduceLeDiff,Nat.reduceMul,reduceCtorEq,tb51]
  refine hchk.use ?_
  by_cases e0:chkF f=0
  · rw [if_neg (by simpa using e0)] at hrr
    have q0:(chkF f=0)=True:=eq_true e0
    try simp only [go_sem,Int.reduceEq,Int.reduceLT,Int.reduceLE,↓reduceIte,Nat.reduceEqDiff,Nat.reduceAdd,Nat.reduceSub,Nat.reduceLT,Nat.reduceLeDiff,Nat.reduceMul,reduceCtorEq,tb51,q0,decide_true]
    refine hhd.use ?_
    try simp only [go_sem,Int.reduceEq,Int.reduceLT,Int.reduceLE,↓reduceIte,Nat.reduceEqDiff,Nat.reduceAdd,Nat.reduceSub,Nat.reduceLT,Nat.reduceLeDiff,Nat.reduceMul,reduceCtorEq,tb51,Pick.embs_len]
    refine aloopT (mu:=[]) (dr:=[(9,15,1),(17,5,0)]) [4,5,6,8,9,11,12,13,15,25,26,27,28,29,30,31,32,33,34,35,36,37,38,39,40,41,42,43,44,45,46,47,48,49,50,51,52,53,54,55,56,57,58,59,60,61,62,63,64,65,66,67,68,69,70,71,72,73,74,75,76,77,78,79,80,81,82,83,84,85,86,87,88] (fun x:Nat×List Row×Nat×AV×Store=>[(25,vi x.1),(9,vi (x.2.2.1:Nat)),(8,x.2.2.2.1)]) (fun x=>x.2.2.2.2) (fun x=>x.1≤H.length∧rowsLoop f (H.take x.1) [] 0=some (x.2.1,x.2.2.1)∧LV σ x.2.2.2.2 x.2.2.2.1 3 (Row.embs x.2.1)∧Has σ x.2.2.2.2) (fun x=>H.length-x.1) (0,[],0,.list .full 0 [],σ) (by kernel_rfl) ⟨by omega,rfl,LV.nil _ _ _,.refl _⟩ ⟨.refl _,.refl _,.refl _,trivial⟩ (.refl _) ?_
    rintro ⟨i,out,n,v,S⟩ ⟨i1,i2,i3,i4⟩
    simp only at i1 i2 i3 i4
    have i3':=i3
    obtain ⟨rt,sz,hv,_,_⟩:=i3'
    subst hv
    have hol:=congrArg List.length (hlen0 _ _ i2)
    rw [List.length_map,List.map_nil,List.nil_append,List.length_take] at hol
    simp only at hol
    try simp only [go_sem,Int.reduceEq,Int.reduceLT,Int.reduceLE,↓reduceIte,Nat.reduceEqDiff,Nat.reduceAdd,Nat.reduceSub,Nat.reduceLT,Nat.reduceLeDiff,Nat.reduceMul,reduceCtorEq,tb51,Pick.embs_len]
    refine ⟨fun h1=>⟨by omega,h1,fun c hc=>?_⟩,fun h1=>?_⟩
    · rw [Int.toNat_natCast] at hc
      obtain ⟨x,hx,rfl⟩:=Pick.embs_get hc
      have hst:rowsLoop f (H.take (i+1)) [] 0=rowsLoop f [x] out n:=by
        rw [List.take_add_one,hx,Option.toList_some,rowsLoop_app,i2];rfl
      have hsp:=split_at hx
      have hno:rowsLoop f [x] out n=none→RR=([],0,1):=fun h=>by
        rw [hrr]
        have:=List.take_append_drop (i+1) H
        rw [← this,rowsLoop_app,hst,h];rfl
      obtain ⟨ri,ai,m,u,C,rfl,hr,hm0,hu,hC,hcat⟩:=hat x (List.mem_of_getElem? hx)
      have hlu:=(hgr.mem (e:=u.emb) (by rw [FGroup.embs];exact List.mem_map_of_mem (List.mem_of_getElem? hu))).agg (c:=.list .none 7 (FClause.embs u.alts)) (by simp [FGroup.emb])
      have hla:=((hlu.mem (e:=C.emb) (by rw [FClause.embs];exact List.mem_map_of_mem (List.mem_of_getElem? hC))).agg (c:=.list .none 4 (Tm.embs C.args)) (by simp [FClause.emb])).len
      rw [Tm.embs_len] at hla
      have hlp:rowsLoop f [⟨ri,ai⟩] out n=if (0<out.length∧C.args.length≠n)∨8<C.args.length then none else some (out++[⟨⟨ri,ai⟩,C.args.map rowCls⟩],C.args.length):=by
        simp only [rowsLoop,hcat]
      try simp only [go_sem,Int.reduceEq,Int.reduceLT,Int.reduceLE,↓reduceIte,Nat.reduceEqDiff,Nat.reduceAdd,Nat.reduceSub,Nat.reduceLT,Nat.reduceLeDiff,Nat.reduceMul,reduceCtorEq,tb51,Pick.emb]
      intro b11 hb11
      try simp only [go_sem,Int.reduceEq,Int.reduceLT,Int.reduceLE,↓reduceIte,Nat.reduceEqDiff,Nat.reduceAdd,Nat.reduceSub,Nat.reduceLT,Nat.reduceLeDiff,Nat.reduceMul,reduceCtorEq,tb51,hb11]
      refine ⟨by decide,?_⟩
      try simp only [go_sem,Int.reduceEq,Int.reduceLT,Int.reduceLE,↓reduceIte,Nat.reduceEqDiff,Nat.reduceAdd,Nat.reduceSub,Nat.reduceLT,Nat.reduceLeDiff,Nat.reduceMul,reduceCtorEq,tb51,Int.toNat_zero,Nat.zero_mul,List.drop_zero,List.head?_cons,ints_len]
      have hri:ri<f.rules.length:=(List.getElem?_eq_some_iff.1 hr).1
      have hml:m.toNat<f.groups.length:=(List.getElem?_eq_some_iff.1 hu).1
      have hal:ai<u.alts.length:=(List.getElem?_eq_some_iff.1 hC).1
      refine ⟨by omega,by omega,fun c hc=>?_⟩
      obtain rfl:[vi m]=c:=by
        obtain ⟨n',h1,rfl⟩:=mapGet hc
        rw [Int.toNat_natCast,hr] at h1;injection h1 with h1;rw [h1]
      try simp only [go_sem,Int.reduceEq,Int.reduceLT,Int.reduceLE,↓reduceIte,Nat.reduceEqDiff,Nat.reduceAdd,Nat.reduceSub,Nat.reduceLT,Nat.reduceLeDiff,Nat.reduceMul,reduceCtorEq,tb51,FGroup.embs_len]
      refine ⟨by omega,by omega,fun c hc=>?_⟩
      obtain ⟨u',hu',rfl⟩:=FGroup.embs_get hc
      obtain rfl:u=u':=by rw [hu] at hu';injection hu'
      try simp only [go_sem,Int.reduceEq,Int.reduceLT,Int.reduceLE,↓reduceIte,Nat.reduceEqDiff,Nat.reduceAdd,Nat.reduceSub,Nat.reduceLT,Nat.reduceLeDiff,Nat.reduceMul,reduceCtorEq,tb51,FGroup.emb,FClause.embs_len]
      refine ⟨by decide,?_⟩
      try simp only [go_sem,Int.reduceEq,Int.reduceLT,Int.reduceLE,↓reduceIte,Nat.reduceEqDiff,Nat.reduceAdd,Nat.reduceSub,Nat.reduceLT,Nat.reduceLeDiff,Nat.reduceMul,reduceCtorEq,tb51,show Int.toNat 1=1 from rfl,Nat.mul_one,List.drop_succ_cons,List.drop_zero,List.head?_cons,FClause.embs_len]
      refine ⟨by omega,by omega,fun c hc=>?_⟩
      obtain ⟨C',hC',rfl⟩:=FClause.embs_get hc
      obtain rfl:C=C':=by rw [Int.toNat_natCast,hC] at hC';injection hC'
      try simp only [go_sem,Int.reduceEq,Int.reduceLT,Int.reduceLE,↓reduceIte,Nat.reduceEqDiff,Nat.reduceAdd,Nat.reduceSub,Nat.reduceLT,Nat.reduceLeDiff,Nat.reduceMul,reduceCtorEq,tb51,FClause.emb]
      intro b12 hb12
      have n12:b12≠b11:=Ne.symm hb12.1
      refine ⟨.inr (.cons hb12 _),?_⟩
      by_cases bz:0<(out.length:Int)
      · have fz:(0<(out.length:Int))=True:=eq_true bz
        by_cases bn:(C.args.length:Int)=n
        · have fn:((C.args.length:Int)=n)=True:=eq_true bn
          by_cases b8:8<(C.args.length:Int)
          · have f8:(8<(C.args.length:Int))=True:=eq_true b8
            have hb:=hno (by rw [hlp,if_pos (.inr (by omega))])
            try simp only [go_sem,Int.reduceEq,Int.reduceLT,Int.reduceLE,↓reduceIte,Nat.reduceEqDiff,Nat.reduceAdd,Nat.reduceSub,Nat.reduceLT,Nat.reduceLeDiff,Nat.reduceMul,reduceCtorEq,tb51,Row.embs_len,Tm.embs_len,fz,fn,f8,decide_not,decide_true,decide_false,lt02,lt12,tn0,tn1,true_and,Nat.zero_mul,Nat.mul_one,List.drop_succ_cons,List.drop_zero,List.head?_cons,get_other n12]
            rw [hb]
            exact .mk (.tup3 (.nilA _ _ _) (.refl _) (.refl _)) ((((i4.sub hnd)).skip _).skip _) ⟨rfl,rfl⟩
          · have f8:(8<(C.args.length:Int))=False:=eq_false b8
            have hgood:rowsLoop f [⟨ri,ai⟩] out n=some (out++[⟨⟨ri,ai⟩,C.args.map rowCls⟩],C.args.length):=by
              rw [hlp,if_neg (by omega)]
            try simp only [go_sem,Int.reduceEq,Int.reduceLT,Int.reduceLE,↓reduceIte,Nat.reduceEqDiff,Nat.reduceAdd,Nat.reduceSub,Nat.reduceLT,Nat.reduceLeDiff,Nat.reduceMul,reduceCtorEq,tb51,Row.embs_len,Tm.embs_len,fz,fn,f8,decide_not,decide_true,decide_false,lt02,lt12,tn0,tn1,true_and,Nat.zero_mul,Nat.mul_one,List.drop_succ_cons,List.drop_zero,List.head?_cons,get_other n12]
            intro b13 hb13
            have n132:b13≠b12:=Ne.symm hb13.1
            have n131:b13≠b11:=Ne.symm hb13.2.1
            try simp only [go_sem,Int.reduceEq,Int.reduceLT,Int.reduceLE,↓reduceIte,Nat.reduceEqDiff,Nat.reduceAdd,Nat.reduceSub,Nat.reduceLT,Nat.reduceLeDiff,Nat.reduceMul,reduceCtorEq,tb51,Tm.embs_len,get_other n132]
            obtain ⟨T,hT⟩:∃ T:Store,T=(b12,.cells [.list .none 2 (Ty.embs C.vars),.list .none 2 (Ty.embs C.locals),.list .none 1 (ints C.path),vs C.name,.list .none 4 (Tm.embs C.args),.list .none 9 (FGoal.embs C.goals),.list .none 1 (bools C.lasts)])::(b11,.cells [vi (ri:Int),vi (ai:Int)])::S:=⟨_,rfl⟩
            rw [← hT] at hb13 ⊢
            have hTS:Has σ T:=by rw [hT];exact (i4.cons _).cons _
            have oT:LV σ T (.list rt sz (Row.embs out)) 3 (Row.embs out):=by rw [hT];exact (i3.cons hb11 _).cons hb12 _
            refine aloopT (mu:=[]) (dr:=[(9,15,1),(17,5,0)]) [15,72,73,74,75,76,77,78,79,80,81,82,83] (fun x:Nat×AV×Store=>[(72,vi x.1)]) (fun x=>x.2.2) (fun x=>x.1≤C.args.length∧x.2.2.get b13=some (.cells [vi (ri:Int),vi (ai:Int),x.2.1])∧LV T x.2.2 x.2.1 2 (Cls.embs ((C.args.take x.1).map rowCls))∧Has T x.2.2∧LV σ x.2.2 (.list rt sz (Row.embs out)) 3 (Row.embs out)) (fun x=>C.args.length-x.1) (0,.list .full 0 [],(b13,.cells [vi (ri:Int),vi (ai:Int),.list .full 0 []])::T) (by kernel_rfl) ⟨by omega,get_same _ _ _,LV.nil _ _ _,(Has.refl T).cons _,oT.cons hb13 _⟩ ⟨.refl _,trivial⟩ (.refl _) ?_
            rintro ⟨j,vc,S2⟩ ⟨j1,j2,j3,j4,j5⟩
            simp only at j1 j2 j3 j4 j5
            try simp only [go_sem,Int.reduceEq,Int.reduceLT,Int.reduceLE,↓reduceIte,Nat.reduceEqDiff,Nat.reduceAdd,Nat.reduceSub,Nat.reduceLT,Nat.reduceLeDiff,Nat.reduceMul,reduceCtorEq,tb51,Tm.embs_len]
            refine ⟨fun h1=>⟨by omega,h1,fun c hc=>?_⟩,fun h1=>?_⟩
            · rw [Int.toNat_natCast] at hc
              obtain ⟨a,ha,rfl⟩:=Tm.embs_get hc
              have hrc:=rowClass_c a
              have hcl:(C.args.take (j+1)).map rowCls=(C.args.take j).map rowCls++[rowCls a]:=by rw [List.take_add_one,ha,Option.toList_some,List.map_append];rfl
              generalize rowCls a=k at hrc hcl
              obtain ⟨ka,na,sa,la⟩:=a
              simp only [Tm.emb_mk] at hrc
              try simp only [go_sem,Int.reduceEq,Int.reduceLT,Int.reduceLE,↓reduceIte,Nat.reduceEqDiff,Nat.reduceAdd,Nat.reduceSub,Nat.reduceLT,Nat.reduceLeDiff,Nat.reduceMul,reduceCtorEq,tb51,Tm.emb_mk]
              intro b15 hb15
              have n15:b15≠b13:=fun e=>by have:=fresh_get hb15;rw [e,j2] at this;cases this
              try simp only [go_sem,Int.reduceEq,Int.reduceLT,Int.reduceLE,↓reduceIte,Nat.reduceEqDiff,Nat.reduceAdd,Nat.reduceSub,Nat.reduceLT,Nat.reduceLeDiff,Nat.reduceMul,reduceCtorEq,tb51,get_other n15,j2]
              refine hrc.head ?_
              try simp only [go_sem,Int.reduceEq,Int.reduceLT,Int.reduceLE,↓reduceIte,Nat.reduceEqDiff,Nat.reduceAdd,Nat.reduceSub,Nat.reduceLT,Nat.reduceLeDiff,Nat.reduceMul,reduceCtorEq,tb51,j3.one,j3.cells,Cls.emb,get_other n15,j2]
              refine ⟨rfl,(j3.cons hb15 _).append2 rfl (by decide) (by simp [Cls.embs];omega) rfl (by simp) (j4.cons _) (fun v' S' hv' hk1 hk2 hS'=>?_)⟩
              have g13:=hk2 b13 _ (by rw [get_other n15];exact j2) (by simp)
              have k15:KeptIn T S2 S':=(KeptIn.cons hb15 _).trans hk1
              try simp only [go_sem,Int.reduceEq,Int.reduceLT,Int.reduceLE,↓reduceIte,Nat.reduceEqDiff,Nat.reduceAdd,Nat.reduceSub,Nat.reduceLT,Nat.reduceLeDiff,Nat.reduceMul,reduceCtorEq,tb51,hv'.one,hv'.cells,g13]
              rw [hw j (by omega)]
              have f13:Fresh T b13:=hb13
              refine .mk (j+1,v',S'.set b13 (.cells [vi (ri:Int),vi (ai:Int),v'])) ⟨by simp only;omega,get_set_same g13,?_,hS'.set f13 _,oT.keepIn j5 (k15.trans (.set f13 _))⟩ (by simp only;omega) ⟨.refl _,trivial⟩ (by repeat first | exact Keeps.turn _ rfl | refine Keeps.put rfl ?_) (.refl _)
              simp only
              rw [hcl]
              have:Cls.embs ((C.args.take j).map rowCls++[k])=Cls.embs ((C.args.take j).map rowCls)++[[vb k.any,vs k.name]]:=by simp [Cls.embs,Cls.emb]
              rw [this]
              exact hv'.set g13 (by simp) _
            · have hjr:C.args.take j=C.args:=List.take_of_length_le (by omega)
              rw [hjr] at j3
              try simp only [go_sem,Int.reduceEq,Int.reduceLT,Int.reduceLE,↓reduceIte,Nat.reduceEqDiff,Nat.reduceAdd,Nat.reduceSub,Nat.reduceLT,Nat.reduceLeDiff,Nat.reduceMul,reduceCtorEq,tb51,j2,j3.one,j3.cells]
              refine ⟨rfl,j5.append2 rfl (by decide) (by rw [Row.embs_len,List.length_singleton];omega) rfl (by simp) (fun p hp=>j4 p (hTS p hp)) (fun v' S' hv' hk1 hk2 hS'=>?_)⟩
              obtain ⟨v2,hw2,hv2⟩:=hv'.last (e':=[vi (ri:Int),vi (ai:Int),.list .none 2 (Cls.embs (C.args.map rowCls))]) rfl (fun jj c c' hc hc'=>by
                match jj with
                | 0=>simp at hc hc';subst hc;subst hc';exact .refl _
                | 1=>simp at hc hc';subst hc;subst hc';exact .refl _
                | 2=>simp at hc hc';subst hc;subst hc';exact j3.wk
                | jj+3=>simp at hc)
              try simp only [go_sem,Int.reduceEq,Int.reduceLT,Int.reduceLE,↓reduceIte,Nat.reduceEqDiff,Nat.reduceAdd,Nat.reduceSub,Nat.reduceLT,Nat.reduceLeDiff,Nat.reduceMul,reduceCtorEq,tb51,hv'.one,hv'.cells]
              rw [hw i (by omega)]
              refine .mk (i+1,out++[⟨⟨ri,ai⟩,C.args.map rowCls⟩],C.args.length,v2,S') ⟨by simp only;omega,by simp only;rw [hst,hgood],?_,hS'⟩ (by simp only;omega) ⟨.refl _,.refl _,hw2,trivial⟩ (by repeat first | exact Keeps.turn _ rfl | refine Keeps.put rfl ?_ | refine Keeps.turnS _ rfl rfl ?_) (.refl _)
              have:Row.embs (out++[⟨⟨ri,ai⟩,C.args.map rowCls⟩])=Row.embs out++[[vi (ri:Int),vi (ai:Int),.list .none 2 (Cls.embs (C.args.map rowCls))]]:=by simp [Row.embs,Row.emb]
              simp only
              rw [this]
              exact hv2
        · have fn:((C.args.length:Int)=n)=False:=eq_false bn
          have f8:=fn
          have hb:=hno (by rw [hlp,if_pos (.inl ⟨by omega,by omega⟩)])
          try simp only [go_sem,Int.reduceEq,Int.reduceLT,Int.reduceLE,↓reduceIte,Nat.reduceEqDiff,Nat.reduceAdd,Nat.reduceSub,Nat.reduceLT,Nat.reduceLeDiff,Nat.reduceMul,reduceCtorEq,tb51,Row.embs_len,Tm.embs_len,fz,fn,f8,decide_not,decide_true,decide_false,lt02,lt12,tn0,tn1,true_and,Nat.zero_mul,Nat.mul_one,List.drop_succ_cons,List.drop_zero,List.head?_cons,get_other n12]
          rw [hb]
          exact .mk (.tup3 (.nilA _ _ _) (.refl _) (.refl _)) ((((i4.sub hnd)).skip _).skip _) ⟨rfl,rfl⟩
      · have fz:(0<(out.length:Int))=False:=eq_false bz
        have fn:=fz
        by_cases b8:8<(C.args.length:Int)
        · have f8:(8<(C.args.length:Int))=True:=eq_true b8
          have hb:=hno (by rw [hlp,if_pos (.inr (by omega))])
          try simp only [go_sem,Int.reduceEq,Int.reduceLT,Int.reduceLE,↓reduceIte,Nat.reduceEqDiff,Nat.reduceAdd,Nat.reduceSub,Nat.reduceLT,Nat.reduceLeDiff,Nat.reduceMul,reduceCtorEq,tb51,Row.embs_len,Tm.embs_len,fz,fn,f8,decide_not,decide_true,decide_false,lt02,lt12,tn0,tn1,true_and,Nat.zero_mul,Nat.mul_one,List.drop_succ_cons,List.drop_zero,List.head?_cons,get_other n12]
          rw [hb]
          exact .mk (.tup3 (.nilA _ _ _) (.refl _) (.refl _)) ((((i4.sub hnd)).skip _).skip _) ⟨rfl,rfl⟩
        · have f8:(8<(C.args.length:Int))=False:=eq_false b8
          have hgood:rowsLoop f [⟨ri,ai⟩] out n=some (out++[⟨⟨ri,ai⟩,C.args.map rowCls⟩],C.args.length):=by
            rw [hlp,if_neg (by omega)]
          try simp only [go_sem,Int.reduceEq,Int.reduceLT,Int.reduceLE,↓reduceIte,Nat.reduceEqDiff,Nat.reduceAdd,Nat.reduceSub,Nat.reduceLT,Nat.reduceLeDiff,Nat.reduceMul,reduceCtorEq,tb51,Row.embs_len,Tm.embs_len,fz,fn,f8,decide_not,decide_true,decide_false,lt02,lt12,tn0,tn1,true_and,Nat.zero_mul,Nat.mul_one,List.drop_succ_cons,List.drop_zero,List.head?_cons,get_other n12]
          intro b13 hb13
          have n132:b13≠b12:=Ne.symm hb13.1
          have n131:b13≠b11:=Ne.symm hb13.2.1
          try simp only [go_sem,Int.reduceEq,Int.reduceLT,Int.reduceLE,↓reduceIte,Nat.reduceEqDiff,Nat.reduceAdd,Nat.reduceSub,Nat.reduceLT,Nat.reduceLeDiff,Nat.reduceMul,reduceCtorEq,tb51,Tm.embs_len,get_other n132]
          obtain ⟨T,hT⟩:∃ T:Store,T=(b12,.cells [.list .none 2 (Ty.embs C.vars),.list .none 2 (Ty.embs C.locals),.list .none 1 (ints C.path),vs C.name,.list .none 4 (Tm.embs C.args),.list .none 9 (FGoal.embs C.goals),.list .none 1 (bools C.lasts)])::(b11,.cells [vi (ri:Int),vi (ai:Int)])::S:=⟨_,rfl⟩
          rw [← hT] at hb13 ⊢
          have hTS:Has σ T:=by rw [hT];exact (i4.cons _).cons _
          have oT:LV σ T (.list rt sz (Row.embs out)) 3 (Row.embs out):=by rw [hT];exact (i3.cons hb11 _).cons hb12 _
          refine aloopT (mu:=[]) (dr:=[(9,15,1),(17,5,0)]) [15,72,73,74,75,76,77,78,79,80,81,82,83] (fun x:Nat×AV×Store=>[(72,vi x.1)]) (fun x=>x.2.2) (fun x=>x.1≤C.args.length∧x.2.2.get b13=some (.cells [vi (ri:Int),vi (ai:Int),x.2.1])∧LV T x.2.2 x.2.1 2 (Cls.embs ((C.args.take x.1).map rowCls))∧Has T x.2.2∧LV σ x.2.2 (.list rt sz (Row.embs out)) 3 (Row.embs out)) (fun x=>C.args.length-x.1) (0,.list .full 0 [],(b13,.cells [vi (ri:Int),vi (ai:Int),.list .full 0 []])::T) (by kernel_rfl) ⟨by omega,get_same _ _ _,LV.nil _ _ _,(Has.refl T).cons _,oT.cons hb13 _⟩ ⟨.refl _,trivial⟩ (.refl _) ?_
          rintro ⟨j,vc,S2⟩ ⟨j1,j2,j3,j4,j5⟩
          simp only at j1 j2 j3 j4 j5
          try simp only [go_sem,Int.reduceEq,Int.reduceLT,Int.reduceLE,↓reduceIte,Nat.reduceEqDiff,Nat.reduceAdd,Nat.reduceSub,Nat.reduceLT,Nat.reduceLeDiff,Nat.reduceMul,reduceCtorEq,tb51,Tm.embs_len]
          refine ⟨fun h1=>⟨by omega,h1,fun c hc=>?_⟩,fun h1=>?_⟩
          · rw [Int.toNat_natCast] at hc
            obtain ⟨a,ha,rfl⟩:=Tm.embs_get hc
            have hrc:=rowClass_c a
            have hcl:(C.args.take (j+1)).map rowCls=(C.args.take j).map rowCls++[rowCls a]:=by rw [List.take_add_one,ha,Option.toList_some,List.map_append];rfl
            generalize rowCls a=k at hrc hcl
            obtain ⟨ka,na,sa,la⟩:=a
            simp only [Tm.emb_mk] at hrc
            try simp only [go_sem,Int.reduceEq,Int.reduceLT,Int.reduceLE,↓reduceIte,Nat.reduceEqDiff,Nat.reduceAdd,Nat.reduceSub,Nat.reduceLT,Nat.reduceLeDiff,Nat.reduceMul,reduceCtorEq,tb51,Tm.emb_mk]
            intro b15 hb15
            have n15:b15≠b13:=fun e=>by have:=fresh_get hb15;rw [e,j2] at this;cases this
            try simp only [go_sem,Int.reduceEq,Int.reduceLT,Int.reduceLE,↓reduceIte,Nat.reduceEqDiff,Nat.reduceAdd,Nat.reduceSub,Nat.reduceLT,Nat.reduceLeDiff,Nat.reduceMul,reduceCtorEq,tb51,get_other n15,j2]
            refine hrc.head ?_
            try simp only [go_sem,Int.reduceEq,Int.reduceLT,Int.reduceLE,↓reduceIte,Nat.reduceEqDiff,Nat.reduceAdd,Nat.reduceSub,Nat.reduceLT,Nat.reduceLeDiff,Nat.reduceMul,reduceCtorEq,tb51,j3.one,j3.cells,Cls.emb,get_other n15,j2]
            refine ⟨rfl,(j3.cons hb15 _).append2 rfl (by decide) (by simp [Cls.embs];omega) rfl (by simp) (j4.cons _) (fun v' S' hv' hk1 hk2 hS'=>?_)⟩
            have g13:=hk2 b13 _ (by rw [get_other n15];exact j2) (by simp)
            have k15:KeptIn T S2 S':=(KeptIn.cons hb15 _).trans hk1
            try simp only [go_sem,Int.reduceEq,Int.reduceLT,Int.reduceLE,↓reduceIte,Nat.reduceEqDiff,Nat.reduceAdd,Nat.reduceSub,Nat.reduceLT,Nat.reduceLeDiff,Nat.reduceMul,reduceCtorEq,tb51,hv'.one,hv'.cells,g13]
            rw [hw j (by omega)]
            have f13:Fresh T b13:=hb13
            refine .mk (j+1,v',S'.set b13 (.cells [vi (ri:Int),vi (ai:Int),v'])) ⟨by simp only;omega,get_set_same g13,?_,hS'.set f13 _,oT.keepIn j5 (k15.trans (.set f13 _))⟩ (by simp only;omega) ⟨.refl _,trivial⟩ (by repeat first | exact Keeps.turn _ rfl | refine Keeps.put rfl ?_) (.refl _)
            simp only
            rw [hcl]
            have:Cls.embs ((C.args.take j).map rowCls++[k])=Cls.embs ((C.args.take j).map rowCls)++[[vb k.any,vs k.name]]:=by simp [Cls.embs,Cls.emb]
            rw [this]
            exact hv'.set g13 (by simp) _
          · have hjr:C.args.take j=C.args:=List.take_of_length_le (by omega)
            rw [hjr] at j3
            try simp only [go_sem,Int.reduceEq,Int.reduceLT,Int.reduceLE,↓reduceIte,Nat.reduceEqDiff,Nat.reduceAdd,Nat.reduceSub,Nat.reduceLT,Nat.reduceLeDiff,Nat.reduceMul,reduceCtorEq,tb51,j2,j3.one,j3.cells]
            refine ⟨rfl,j5.append2 rfl (by decide) (by rw [Row.embs_len,List.length_singleton];omega) rfl (by simp) (fun p hp=>j4 p (hTS p hp)) (fun v' S' hv' hk1 hk2 hS'=>?_)⟩
            obtain ⟨v2,hw2,hv2⟩:=hv'.last (e':=[vi (ri:Int),vi (ai:Int),.list .none 2 (Cls.embs (C.args.map rowCls))]) rfl (fun jj c c' hc hc'=>by
              match jj with
              | 0=>simp at hc hc';subst hc;subst hc';exact .refl _
              | 1=>simp at hc hc';subst hc;subst hc';exact .refl _
              | 2=>simp at hc hc';subst hc;subst hc';exact j3.wk
              | jj+3=>simp at hc)
            try simp only [go_sem,Int.reduceEq,Int.reduceLT,Int.reduceLE,↓reduceIte,Nat.reduceEqDiff,Nat.reduceAdd,Nat.reduceSub,Nat.reduceLT,Nat.reduceLeDiff,Nat.reduceMul,reduceCtorEq,tb51,hv'.one,hv'.cells]
            rw [hw i (by omega)]
            refine .mk (i+1,out++[⟨⟨ri,ai⟩,C.args.map rowCls⟩],C.args.length,v2,S') ⟨by simp only;omega,by simp only;rw [hst,hgood],?_,hS'⟩ (by simp only;omega) ⟨.refl _,.refl _,hw2,trivial⟩ (by repeat first | exact Keeps.turn _ rfl | refine Keeps.put rfl ?_ | refine Keeps.turnS _ rfl rfl ?_) (.refl _)
            have:Row.embs (out++[⟨⟨ri,ai⟩,C.args.map rowCls⟩])=Row.embs out++[[vi (ri:Int),vi (ai:Int),.list .none 2 (Cls.embs (C.args.map rowCls))]]:=by simp [Row.embs,Row.emb]
            simp only
            rw [this]
            exact hv2
    · have hir:H.take i=H:=List.take_of_length_le (by omega)
      rw [hir] at i2
      rw [i2] at hrr
      simp only at hrr
      by_cases he:out=[]
      · rw [if_pos he] at hrr
        rw [hrr]
        have fz:((out.length:Int)=0)=True:=eq_true (by rw [he];rfl)
        try simp only [go_sem,Int.reduceEq,Int.reduceLT,Int.reduceLE,↓reduceIte,Nat.reduceEqDiff,Nat.reduceAdd,Nat.reduceSub,Nat.reduceLT,Nat.reduceLeDiff,Nat.reduceMul,reduceCtorEq,tb51,Row.embs_len,fz,decide_true]
        exact .mk (.tup3 (.nilA _ _ _) (.refl _) (.refl _)) (i4.sub hnd) ⟨rfl,rfl⟩
      · rw [if_neg he] at hrr
        rw [hrr]
        have hpos:0<out.length:=List.length_pos_iff.2 he
        have fz:((out.length:Int)=0)=False:=eq_false (by omega)
        try simp only [go_sem,Int.reduceEq,Int.reduceLT,Int.reduceLE,↓reduceIte,Nat.reduceEqDiff,Nat.reduceAdd,Nat.reduceSub,Nat.reduceLT,Nat.reduceLeDiff,Nat.reduceMul,reduceCtorEq,tb51,Row.embs_len,fz,decide_false]
        have hop:=hlen0 _ _ i2
        simp only [List.map_nil,List.nil_append] at hop
        have hpw:out.Pairwise (fun x y=>cmpP x.pick y.pick<0):=by rw [← hop,List.pairwise_map] at hsort;exact hsort
        obtain ⟨rt',s',hveq,hz,ht⟩:=i3
        injection hveq with hv1 hv2
        subst hv1;subst hv2
        rcases ht with ⟨_,hn⟩ | ⟨b,e,c,rfl,rfl,hg,_⟩
        · exact absurd (by have:=congrArg List.length hn;rw [Row.embs_len] at this;exact List.length_eq_zero_iff.1 this) he
        · refine (sortRows_c out b e c S he hg hpw).only ?_
          try simp only [go_sem,Int.reduceEq,Int.reduceLT,Int.reduceLE,↓reduceIte,Nat.reduceEqDiff,Nat.reduceAdd,Nat.reduceSub,Nat.reduceLT,Nat.reduceLeDiff,Nat.reduceMul,reduceCtorEq,tb51]
          exact .mk (.tup3 (.list _ _ _) (.refl _) (.refl _)) (i4.sub hnd) ⟨rfl,rfl⟩
  · rw [if_pos (by simpa using e0)] at hrr
    have q0:(chkF f=0)=False:=eq_false e0
    try simp only [go_sem,Int.reduceEq,Int.reduceLT,Int.reduceLE,↓reduceIte,Nat.reduceEqDiff,Nat.reduceAdd,Nat.reduceSub,Nat.reduceLT,Nat.reduceLeDiff,Nat.reduceMul,reduceCtorEq,tb51,q0,decide_false]
    rw [hrr]
    exact .mk (.tup3 (.nilA _ _ _) (.refl _) (.refl _)) (.refl _) ⟨rfl,rfl⟩
end Go.Vx
end
