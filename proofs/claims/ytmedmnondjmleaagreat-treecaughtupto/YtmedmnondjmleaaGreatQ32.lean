/- Part Q32 of the proof of treeCaughtProved: the walk of the program on abstract values, and the plain law. -/
import Derived.Test.YtmedmnondjmleaaGreatQ31
set_option linter.unusedVariables false
set_option linter.unusedSimpArgs false
section
set_option maxRecDepth 100000
namespace Go.Vx
open Go.Proofs
theorem tb141:(elOf Tryz.prog 26=some 32)∧(szOf Tryz.prog 32=some 2)∧(aggOf Tryz.prog 32=some true)∧(Tryz.prog.underlying 26=some (.slice 32)):=by
  refine ⟨?_,?_,?_,?_⟩<;>first | trivial | kernel_rfl
theorem tb142:(elOf Tryz.prog 28=some 114)∧(szOf Tryz.prog 114=some 7)∧(aggOf Tryz.prog 114=some true)∧(Tryz.prog.underlying 28=some (.slice 114)):=by
  refine ⟨?_,?_,?_,?_⟩<;>first | trivial | kernel_rfl
theorem tb143:(fOff Tryz.prog 114 0=some 0)∧(szOf Tryz.prog 9=some 1)∧(aggOf Tryz.prog 9=some false):=by
  refine ⟨?_,?_,?_⟩<;>first | trivial | kernel_rfl
theorem tb145:(szOf Tryz.prog 30=some 6)∧(aggOf Tryz.prog 30=some true)∧(szOf Tryz.prog 3=some 1)∧(aggOf Tryz.prog 3=some false)∧(szOf Tryz.prog 141=some 1)∧(aggOf Tryz.prog 141=some false):=by
  refine ⟨?_,?_,?_,?_,?_,?_⟩<;>first | trivial | kernel_rfl
theorem tb106:(fOff Tryz.prog 30 0=some 0)∧(szOf Tryz.prog 3=some 1)∧(aggOf Tryz.prog 3=some false)∧(fOff Tryz.prog 30 2=some 2)∧(szOf Tryz.prog 30=some 6)∧(aggOf Tryz.prog 30=some true)∧(fOff Tryz.prog 30 1=some 1)∧(szOf Tryz.prog 26=some 1)∧(aggOf Tryz.prog 26=some false)∧(szOf Tryz.prog 141=some 1)∧(aggOf Tryz.prog 141=some false)∧(Tryz.prog.underlying 141=some (.map 3 4))∧(Tryz.prog.underlying 3=some (.int .i64))∧(zeroOf Tryz.prog 4=some (.bool false))∧(fOff Tryz.prog 30 3=some 3)∧(szOf Tryz.prog 27=some 1)∧(aggOf Tryz.prog 27=some false)∧(fOff Tryz.prog 30 5=some 5)∧(fOff Tryz.prog 30 4=some 4)∧(szOf Tryz.prog 28=some 1)∧(aggOf Tryz.prog 28=some false)∧(elOf Tryz.prog 28=some 114)∧(szOf Tryz.prog 114=some 7)∧(fOff Tryz.prog 114 0=some 0)∧(szOf Tryz.prog 9=some 1)∧(aggOf Tryz.prog 9=some false)∧(Tryz.prog.underlying 27=some (.slice 30))∧(Tryz.prog.underlying 28=some (.slice 114))∧(Tryz.prog.underlying 26=some (.slice 32)):=by
  refine ⟨?_,?_,?_,?_,?_,?_,?_,?_,?_,?_,?_,?_,?_,?_,?_,?_,?_,?_,?_,?_,?_,?_,?_,?_,?_,?_,?_,?_,?_⟩<;>first | trivial | kernel_rfl
theorem tb61:(szOf Tryz.prog 30=some 6)∧(aggOf Tryz.prog 30=some true):=by
  refine ⟨?_,?_⟩<;>first | trivial | kernel_rfl
theorem look_upd {κ:Type}[DecidableEq κ](l:List (κ×AV×Nat))(x y:κ)(v:AV)(c:Nat):lookL (updL l x v c) y=if y=x then some v else lookL l y:=by
  unfold updL
  split
  · rename_i hx
    induction l with
    | nil=>simp at hx
    | cons e r ih =>
      obtain ⟨k,u,b⟩:=e
      simp only [List.map_cons]
      unfold lookL at ih ⊢
      by_cases hk:k=x
      · subst hk
        simp only [if_true,List.find?_cons]
        by_cases hy:y=k
        · subst hy;simp
        · have hy2:¬ k=y:=fun e=>hy e.symm
          simp only [decide_eq_false hy2,if_neg hy]
          by_cases hin:k∈r.map (·.1)
          · have:=ih hin;rw [if_neg hy] at this;exact this
          · have:∀ e∈r,(if e.1=k then (k,v,e.2.2) else e)=e:=by
              intro e he
              split
              · rename_i h;exact absurd (h ▸ List.mem_map_of_mem (f:=(·.1)) he) hin
              · rfl
            rw [show r.map (fun e=>if e.1=k then (k,v,e.2.2) else e)=r from (List.map_congr_left this).trans (by simp)]
      · have hin:x∈r.map (·.1):=by
          simp only [List.map_cons,List.mem_cons] at hx
          rcases hx with h | h
          · exact absurd h.symm hk
          · exact h
        simp only [if_neg hk,List.find?_cons]
        by_cases hy:k=y
        · subst hy
          simp [hk]
        · simp only [decide_eq_false hy];exact ih hin
  · rename_i hx
    unfold lookL
    rw [List.find?_append]
    by_cases hy:y=x
    · subst hy
      have:l.find? (fun e=>decide (e.1=y))=none:=by
        rw [List.find?_eq_none];intro e he;simp only [decide_eq_true_eq];exact fun h=>hx (h ▸ List.mem_map_of_mem (f:=(·.1)) he)
      simp [this]
    · have hy2:¬ x=y:=fun e=>hy e.symm
      rw [if_neg hy]
      simp [List.find?_cons,decide_eq_false hy2]
theorem BoolM.put {q:ML}(h:BoolM q)(x:Int)(b:Bool):BoolM (putB q x b):=by
  intro y v hv
  unfold putB at hv
  rw [look_upd] at hv
  split at hv
  · injection hv with hv;exact ⟨b,hv.symm⟩
  · exact h y v hv
theorem BoolM.get {q:ML}(h:BoolM q)(x:Int):(lookL q.1 x).getD (vb false)=vb (seenB q x):=by
  unfold seenB
  cases hl:lookL q.1 x with
  | none=>rfl
  | some v=>obtain ⟨b,rfl⟩:=h x v hl;rfl
theorem frm_eq (n:Int)(k:Int)(p:List Pick)(a:Int)(y:List Tr)(c:List Cs)(e:List Tr)(q:ML):frm n (.mk k p a y c e) q=if k=1 then (decide (a=0)&&decide ((partsT (.mk k p a y c e)).length=0)&&incB cmpP p,q) else if k=2 then (if badN n p a y c e q || badC c then (false,q) else ((frmTs n (partsT (.mk k p a y c e)) (true,putB q a true)).1,putB (frmTs n (partsT (.mk k p a y c e)) (true,putB q a true)).2 a false)) else (false,q):=by
  simp only [frm,partsT,frmTs_app,frmCs_eq]
theorem frmTs_bool {n:Int}:∀ (l:List Tr) (q:Bool×ML),(∀ x∈l,∀ q,BoolM q→BoolM (frm n x q).2)→BoolM q.2→BoolM (frmTs n l q).2
  | [],q,_,h=>h
  | t::r,q,hl,h=>by
    simp only [frmTs]
    split
    · exact frmTs_bool r _ (fun x hx=>hl x (List.mem_cons_of_mem _ hx)) (hl t List.mem_cons_self _ h)
    · exact h
theorem frm_bool (n:Int)(t:Tr):∀ q,BoolM q→BoolM (frm n t q).2:=by
  refine trN_ind (M:=fun t=>∀ q,BoolM q→BoolM (frm n t q).2) (fun t ih q hq=>?_) t
  obtain ⟨k,p,a,y,c,e⟩:=t
  rw [frm_eq]
  split
  · exact hq
  · split
    · split
      · exact hq
      · exact (frmTs_bool _ _ (fun x hx=>ih x (parts_lt hx)) (hq.put _ _)).put _ _
    · exact hq
abbrev CmpT (α:Type):=α→α→Int
theorem Pick.emb_len (p:Pick):p.emb.length=2:=rfl
theorem isInc_Pick (f:Value)(cmp:CmpT Pick)(hf:f=.func (.func 96) #[] #[])(hc:∀ a b:Pick,Pur Tryz.prog 96 [.agg a.emb,.agg b.emb] (vi (cmp a b)))(l:List Pick)(rt:Rt)(s:Nat)(hs:s=2∨l=[]):Pur Tryz.prog 141 [.list rt s (Pick.embs l),.val f] (vb (incB cmp l)):=by
  subst hf
  intro σ
  refine ACalls.ok (by kernel_rfl) (fun hok=>?_)
  have hl:=(hok _ List.mem_cons_self).len
  rw [Pick.embs_len] at hl
  clear hok
  refine acalls_of [] [(4,10,0)] Tryz.func141 rfl (by kernel_rfl) ?_;rw [Tryz.ntmps141,Tryz.results141]
  try simp only [go_sem,seval,tb141,Pick.embs_len]
  refine aloopT (mu:=[]) (dr:=[(4,10,0)]) [4,5,6,7,8,9,10,11,12,13,14,15,16,17,18,19,20,21,22,23] (fun i:Nat=>[(5,vi ((i+1:Nat):Int))]) (fun _=>σ) (fun i=>(i+1≤l.length∨i=0)∧∀ (j:Nat) (a b:Pick),j<i→l[j]?=some a→l[j+1]?=some b→cmp a b<0) (fun i=>l.length-i) 0 (by kernel_rfl) ⟨.inr rfl,fun j a b h=>absurd h (Nat.not_lt_zero _)⟩ ⟨.refl _,trivial⟩ (.refl _) ?_
  rintro i ⟨i1,i2⟩
  try simp only [go_sem,seval,tb141,Pick.embs_len]
  refine ⟨fun h1=>?_,fun h1=>?_⟩
  · rw [show IntKind.i64.wrap (((i+1:Nat):Int)-1)=((i:Nat):Int) from (by rw [wrap64 (by omega) (by omega)];omega)]
    have hs2:s=2:=by
      rcases hs with h | h
      · exact h
      · rw [h] at h1;simp at h1;omega
    refine ⟨by rw [hs2],by omega,by omega,fun c hc2=>?_⟩
    rw [Int.toNat_natCast] at hc2
    obtain ⟨a,ha,rfl⟩:=Pick.embs_get hc2
    have hla:(Pick.emb a).length=2:=Pick.emb_len a
    have hta:List.take 2 (Pick.emb a)=Pick.emb a:=List.take_of_length_le (by omega)
    try simp only [go_sem,seval,tb141,Pick.embs_len,hla,hta]
    refine ⟨by rw [hs2],by omega,by omega,fun c hc3=>?_⟩
    rw [Int.toNat_natCast] at hc3
    obtain ⟨b,hb,rfl⟩:=Pick.embs_get hc3
    have hab:=hc a b
    have hlb:(Pick.emb b).length=2:=Pick.emb_len b
    have htb:List.take 2 (Pick.emb b)=Pick.emb b:=List.take_of_length_le (by omega)
    try simp only [go_sem,seval,tb141,hlb,htb]
    first | refine hab.head ?_ | refine hab.use ?_
    try simp only [go_sem,seval,tb141]
    refine ⟨fun h2=>?_,fun h2=>?_⟩
    · try simp only [go_sem,seval,tb141]
      refine fin_b (Eq.symm ?_)
      rw [Bool.eq_false_iff]
      intro hi
      have:=(incB_get l).1 hi i a b ha hb
      omega
    · try simp only [go_sem,seval,tb141]
      have hlt:=(List.getElem?_eq_some_iff.1 hb).1
      rw [show IntKind.i64.wrap (((i+1:Nat):Int)+1)=((i+1+1:Nat):Int) from (by rw [wrap64 (by omega) (by omega)];omega)]
      refine .mk (i+1) ⟨.inl (by omega),fun j x y hj hx hy=>?_⟩ (by omega) ⟨.refl _,trivial⟩ (by repeat first | exact Keeps.turn _ rfl | refine Keeps.put rfl ?_) (.refl _)
      by_cases hji:j=i
      · subst hji;rw [ha] at hx;rw [hb] at hy;injection hx with hx;injection hy with hy;subst hx;subst hy;omega
      · exact i2 j x y (by omega) hx hy
  · try simp only [go_sem,seval,tb141]
    refine fin_b (Eq.symm ((incB_get l).2 (fun j a b ha hb=>i2 j a b ?_ ha hb)))
    have:=(List.getElem?_eq_some_iff.1 hb).1
    omega
theorem isInc_Case (f:Value)(cmp:CmpT Cs)(hf:f=.func (.func 143) #[] #[])(hc:∀ a b:Cs,Pur Tryz.prog 143 [.agg a.emb,.agg b.emb] (vi (cmp a b)))(l:List Cs)(rt:Rt)(s:Nat)(hs:s=7∨l=[]):Pur Tryz.prog 142 [.list rt s (Cs.embs l),.val f] (vb (incB cmp l)):=by
  subst hf
  intro σ
  refine ACalls.ok (by kernel_rfl) (fun hok=>?_)
  have hl:=(hok _ List.mem_cons_self).len
  rw [Cs.embs_len] at hl
  clear hok
  refine acalls_of [] [(4,10,0)] Tryz.func142 rfl (by kernel_rfl) ?_;rw [Tryz.ntmps142,Tryz.results142]
  try simp only [go_sem,seval,tb142,Cs.embs_len]
  refine aloopT (mu:=[]) (dr:=[(4,10,0)]) [4,5,6,7,8,9,10,11,12,13,14,15,16,17,18,19,20,21,22,23] (fun i:Nat=>[(5,vi ((i+1:Nat):Int))]) (fun _=>σ) (fun i=>(i+1≤l.length∨i=0)∧∀ (j:Nat) (a b:Cs),j<i→l[j]?=some a→l[j+1]?=some b→cmp a b<0) (fun i=>l.length-i) 0 (by kernel_rfl) ⟨.inr rfl,fun j a b h=>absurd h (Nat.not_lt_zero _)⟩ ⟨.refl _,trivial⟩ (.refl _) ?_
  rintro i ⟨i1,i2⟩
  try simp only [go_sem,seval,tb142,Cs.embs_len]
  refine ⟨fun h1=>?_,fun h1=>?_⟩
  · rw [show IntKind.i64.wrap (((i+1:Nat):Int)-1)=((i:Nat):Int) from (by rw [wrap64 (by omega) (by omega)];omega)]
    have hs2:s=7:=by
      rcases hs with h | h
      · exact h
      · rw [h] at h1;simp at h1;omega
    refine ⟨by rw [hs2],by omega,by omega,fun c hc2=>?_⟩
    rw [Int.toNat_natCast] at hc2
    obtain ⟨a,ha,rfl⟩:=Cs.embs_get hc2
    have hla:(Cs.emb a).length=7:=Cs.emb_len a
    have hta:List.take 7 (Cs.emb a)=Cs.emb a:=List.take_of_length_le (by omega)
    try simp only [go_sem,seval,tb142,Cs.embs_len,hla,hta]
    refine ⟨by rw [hs2],by omega,by omega,fun c hc3=>?_⟩
    rw [Int.toNat_natCast] at hc3
    obtain ⟨b,hb,rfl⟩:=Cs.embs_get hc3
    have hab:=hc a b
    have hlb:(Cs.emb b).length=7:=Cs.emb_len b
    have htb:List.take 7 (Cs.emb b)=Cs.emb b:=List.take_of_length_le (by omega)
    try simp only [go_sem,seval,tb142,hlb,htb]
    first | refine hab.head ?_ | refine hab.use ?_
    try simp only [go_sem,seval,tb142]
    refine ⟨fun h2=>?_,fun h2=>?_⟩
    · try simp only [go_sem,seval,tb142]
      refine fin_b (Eq.symm ?_)
      rw [Bool.eq_false_iff]
      intro hi
      have:=(incB_get l).1 hi i a b ha hb
      omega
    · try simp only [go_sem,seval,tb142]
      have hlt:=(List.getElem?_eq_some_iff.1 hb).1
      rw [show IntKind.i64.wrap (((i+1:Nat):Int)+1)=((i+1+1:Nat):Int) from (by rw [wrap64 (by omega) (by omega)];omega)]
      refine .mk (i+1) ⟨.inl (by omega),fun j x y hj hx hy=>?_⟩ (by omega) ⟨.refl _,trivial⟩ (by repeat first | exact Keeps.turn _ rfl | refine Keeps.put rfl ?_) (.refl _)
      by_cases hji:j=i
      · subst hji;rw [ha] at hx;rw [hb] at hy;injection hx with hx;injection hy with hy;subst hx;subst hy;omega
      · exact i2 j x y (by omega) hx hy
  · try simp only [go_sem,seval,tb142]
    refine fin_b (Eq.symm ((incB_get l).2 (fun j a b ha hb=>i2 j a b ?_ ha hb)))
    have:=(List.getElem?_eq_some_iff.1 hb).1
    omega
theorem formed1_c (a b:Cs):Pur Tryz.prog 143 [.agg a.emb,.agg b.emb] (vi (cmpC a b)):=by
  intro σ
  obtain ⟨s,t⟩:=a
  obtain ⟨k,p,x,y,c,e⟩:=t
  obtain ⟨s2,t2⟩:=b
  obtain ⟨k2,p2,x2,y2,c2,e2⟩:=t2
  simp only [Cs.emb_mk]
  refine acalls_of [] [] Tryz.func143 rfl (by kernel_rfl) ?_;rw [Tryz.ntmps143,Tryz.results143]
  try simp only [go_sem,seval,tb143]
  refine (compare_str s s2).use ?_
  try simp only [go_sem,seval,tb143]
  exact fin_same
end Go.Vx
end
section
set_option maxRecDepth 100000
namespace Go.Vx
open Go.Proofs
def mapO (q:ML):AObj:=.map (embM keI q.1) q.2
def FrmIH (n:Int)(t:Tr):Prop:=∀ (q:ML) (r:Nat) (σ:Store),σ.get r=some (mapO q)→BoolM q →
  ACalls Tryz.prog 106 [.agg t.emb,vi n,.val (.map (some r))] σ (fun x σ'=>x=.ret (vb (frm n t q).1)∧σ'=σ.set r (mapO (frm n t q).2))
def frm2V (b4 b5:Nat):Value:=.func (.func 145) #[] #[.pointer (some ⟨b4,0,none⟩),.pointer (some ⟨b5,0,none⟩)]
theorem formed2_c (n:Int)(t:Tr)(ih:FrmIH n t)(b4 b5 r:Nat)(q:ML)(hq:BoolM q)(σ:Store)(g4:σ.get b4=some (.cells [vi n]))(g5:σ.get b5=some (.cells [.val (.map (some r))]))(gr:σ.get r=some (mapO q)) :
    ACalls Tryz.prog 145 [.agg t.emb,.val (.pointer (some ⟨b4,0,none⟩)),.val (.pointer (some ⟨b5,0,none⟩))] σ (fun x σ'=>x=.ret (vb (!(frm n t q).1))∧σ'=σ.set r (mapO (frm n t q).2)):=by
  have h:=ih q r σ gr hq
  obtain ⟨k,p,a,y,c,e⟩:=t
  simp only [Tr.emb_mk] at h ⊢
  refine acalls_of [] [] Tryz.func145 rfl (by kernel_rfl) ?_;rw [Tryz.ntmps145,Tryz.results145]
  try simp only [go_sem,Int.reduceEq,Int.reduceLT,Int.reduceLE,↓reduceIte,Nat.reduceEqDiff,Nat.reduceAdd,Nat.reduceSub,Nat.reduceLT,Nat.reduceLeDiff,Nat.reduceMul,reduceCtorEq,tb145,g4,g5]
  refine h.mono ?_
  rintro x σ' ⟨rfl,rfl⟩
  cases hb:(frm n (.mk k p a y c e) q).1<;>try simp only [go_sem,Int.reduceEq,Int.reduceLT,Int.reduceLE,↓reduceIte,Nat.reduceEqDiff,Nat.reduceAdd,Nat.reduceSub,Nat.reduceLT,Nat.reduceLeDiff,Nat.reduceMul,reduceCtorEq,tb145]<;>exact .mk (.refl _) (.refl _) ⟨rfl,rfl⟩
theorem take_frm {n:Int}{l:List Tr}{i:Nat}{x:Tr}(h:l[i]?=some x)(q:Bool×ML):frmTs n (l.take (i+1)) q=frmTs n [x] (frmTs n (l.take i) q):=by
  rw [List.take_add_one,h,Option.toList_some,frmTs_app]
theorem frm_fail {n:Int}{l:List Tr}{i:Nat}{q:Bool×ML}(h:(frmTs n (l.take i) q).1=false):frmTs n l q=frmTs n (l.take i) q:=by
  conv=>lhs;rw [← List.take_append_drop i l]
  rw [frmTs_app,frmTs_stop h]
theorem formedAny_c (n:Int)(l:List Tr)(hl:∀ x∈l,FrmIH n x)(b4 b5 r:Nat)(q:ML)(hq:BoolM q)(σ:Store)(g4:σ.get b4=some (.cells [vi n]))(g5:σ.get b5=some (.cells [.val (.map (some r))]))(gr:σ.get r=some (mapO q))(n4:b4≠r)(n5:b5≠r) :
    ACalls Tryz.prog 144 [.list .none 6 (Tr.embs l),.val (frm2V b4 b5)] σ (fun x σ'=>x=.ret (vb (!(frmTs n l (true,q)).1))∧σ'=σ.set r (mapO (frmTs n l (true,q)).2)):=by
  have hok:∀ i,(∀ j,j<i→(!(frmTs n (l.take (j+1)) (true,q)).1)=false)→(frmTs n (l.take i) (true,q)).1=true:=by
    intro i h
    cases i with
    | zero=>rfl
    | succ i=>have:=h i (by omega);simpa using this
  have h:=containsFunc_Tree (frm2V b4 b5) .none 6 (Tr.embs l) (fun i=>σ.set r (mapO (frmTs n (l.take i) (true,q)).2)) (fun i=>!(frmTs n (l.take (i+1)) (true,q)).1) (.inl rfl) (fun i e he=>Tr.embs_sz l e (List.mem_of_getElem? he))
    (fun i e he hb=>by
      obtain ⟨x,hx,rfl⟩:=Tr.embs_get he
      have ht:=hok i hb
      have hstep:=take_frm (n:=n) hx (true,q)
      simp only [frmTs,ht,if_true] at hstep
      simp only [hstep]
      unfold frm2V
      refine AInvoke.of ?_
      refine (formed2_c n x (hl x (List.mem_of_getElem? hx)) b4 b5 r (frmTs n (l.take i) (true,q)).2 (frmTs_bool _ _ (fun x _ q hq=>frm_bool n x q hq) hq) _ (by rw [get_set_ne n4];exact g4) (by rw [get_set_ne n5];exact g5) (get_set_same gr)).mono ?_
      rintro x σ' ⟨rfl,rfl⟩
      exact ⟨rfl,set_set⟩)
  have h0:σ.set r (mapO (frmTs n (l.take 0) (true,q)).2)=σ:=by simp only [List.take_zero,frmTs];exact set_get gr
  simp only [h0] at h
  refine h.mono ?_
  rintro x σ' (⟨i,hi,hb,hn,rfl,rfl⟩ | ⟨hn,rfl,rfl⟩)
  · have hf:(frmTs n (l.take (i+1)) (true,q)).1=false:=by simpa using hb
    have:=frm_fail hf
    rw [this,hf]
    exact ⟨rfl,rfl⟩
  · rw [Tr.embs_len] at hn
    have ht:=hok l.length hn
    simp only [Tr.embs_len,List.take_length] at ht ⊢
    rw [ht]
    simp
def twoV (n:Int)(l:List Tr)(a:Int)(q:ML):Bool×ML:=((frmTs n l (true,putB q a true)).1,putB (frmTs n l (true,putB q a true)).2 a false)
theorem frm_eq' (n:Int)(k:Int)(p:List Pick)(a:Int)(y:List Tr)(c:List Cs)(e:List Tr)(q:ML)(l:List Tr)(hl:l=partsT (.mk k p a y c e)):frm n (.mk k p a y c e) q=if k=1 then (decide (a=0)&&decide (l.length=0)&&incB cmpP p,q) else if k=2 then (if badN n p a y c e q || badC c then (false,q) else twoV n l a q) else (false,q):=by
  subst hl;exact frm_eq n k p a y c e q
theorem formed_c (n:Int)(h0:0≤n)(t:Tr)(hB:trN t≤bigN):FrmIH n t:=by
  revert hB
  refine trN_ind (M:=fun t=>trN t≤bigN→FrmIH n t) (fun t ih hB=>?_) t
  intro q r σ gr hq
  have hpc:=partsT_c t hB
  have hbig:bigN=1073741824:=rfl
  have hmem:∀ x∈partsT t,FrmIH n x:=fun x hx=>ih x (parts_lt hx) (by have:=parts_lt hx;omega)
  obtain ⟨l,hl⟩:∃ l,l=partsT t:=⟨_,rfl⟩
  rw [← hl] at hpc hmem
  obtain ⟨k,p,a,y,c,e⟩:=t
  have hfr:=frm_eq' n k p a y c e q l hl
  simp only [Tr.emb_mk] at hpc ⊢
  obtain ⟨F,hF⟩:∃ F,F=frm n (.mk k p a y c e) q:=⟨_,rfl⟩
  rw [← hF] at hfr ⊢
  refine acalls_of [4,5] [] Tryz.func106 rfl (by kernel_rfl) ?_;rw [Tryz.ntmps106,Tryz.results106]
  try simp only [go_sem,Int.reduceEq,Int.reduceLT,Int.reduceLE,↓reduceIte,Nat.reduceEqDiff,Nat.reduceAdd,Nat.reduceSub,Nat.reduceLT,Nat.reduceLeDiff,Nat.reduceMul,reduceCtorEq,tb106]
  intro b4 hb4 b5 hb5
  have n4r:b4≠r:=fun e=>by rw [e] at hb4;rw [fresh_get hb4] at gr;cases gr
  have n5r:b5≠r:=fun e=>by rw [e] at hb5;rw [fresh_get hb5.2] at gr;cases gr
  have n54:b5≠b4:=Ne.symm hb5.1
  by_cases hk1:k=1
  · have e1:=eq_true hk1
    rw [if_pos hk1] at hfr
    by_cases ha:a=0
    · have e2:=eq_true ha
      try simp only [go_sem,Int.reduceEq,Int.reduceLT,Int.reduceLE,↓reduceIte,Nat.reduceEqDiff,Nat.reduceAdd,Nat.reduceSub,Nat.reduceLT,Nat.reduceLeDiff,Nat.reduceMul,reduceCtorEq,tb106,e1,e2,decide_true]
      refine hpc.use ?_
      by_cases h3:((l.length:Nat):Int)=0
      · have e3:=eq_true h3
        have h3':l.length=0:=by omega
        try simp only [go_sem,Int.reduceEq,Int.reduceLT,Int.reduceLE,↓reduceIte,Nat.reduceEqDiff,Nat.reduceAdd,Nat.reduceSub,Nat.reduceLT,Nat.reduceLeDiff,Nat.reduceMul,reduceCtorEq,tb106,e1,e2,e3,decide_true,Tr.embs_len]
        refine (isInc_Pick _ cmpP rfl comparePicks_c p .none 2 (.inl rfl)).use ?_
        cases hb:incB cmpP p
        · try simp only [go_sem,Int.reduceEq,Int.reduceLT,Int.reduceLE,↓reduceIte,Nat.reduceEqDiff,Nat.reduceAdd,Nat.reduceSub,Nat.reduceLT,Nat.reduceLeDiff,Nat.reduceMul,reduceCtorEq,tb106]
          exact .mk (.refl _) (((Sub.refl _).skip _).skip _) ⟨by rw [hfr]<;>simp [hb],by rw [hfr];exact (set_get gr).symm⟩
        · try simp only [go_sem,Int.reduceEq,Int.reduceLT,Int.reduceLE,↓reduceIte,Nat.reduceEqDiff,Nat.reduceAdd,Nat.reduceSub,Nat.reduceLT,Nat.reduceLeDiff,Nat.reduceMul,reduceCtorEq,tb106]
          exact .mk (.refl _) (((Sub.refl _).skip _).skip _) ⟨by rw [hfr]<;>simp [hb,ha,h3'],by rw [hfr];exact (set_get gr).symm⟩
      · have e3:=eq_false h3
        have h3':¬ l.length=0:=by omega
        try simp only [go_sem,Int.reduceEq,Int.reduceLT,Int.reduceLE,↓reduceIte,Nat.reduceEqDiff,Nat.reduceAdd,Nat.reduceSub,Nat.reduceLT,Nat.reduceLeDiff,Nat.reduceMul,reduceCtorEq,tb106,e1,e2,e3,decide_true,decide_false,Tr.embs_len]
        exact .mk (.refl _) (((Sub.refl _).skip _).skip _) ⟨by rw [hfr]<;>simp [h3'],by rw [hfr];exact (set_get gr).symm⟩
    · have e2:=eq_false ha
      try simp only [go_sem,Int.reduceEq,Int.reduceLT,Int.reduceLE,↓reduceIte,Nat.reduceEqDiff,Nat.reduceAdd,Nat.reduceSub,Nat.reduceLT,Nat.reduceLeDiff,Nat.reduceMul,reduceCtorEq,tb106,e1,e2,decide_true,decide_false]
      exact .mk (.refl _) (((Sub.refl _).skip _).skip _) ⟨by rw [hfr]<;>simp [ha],by rw [hfr];exact (set_get gr).symm⟩
  · have e1:=eq_false hk1
    rw [if_neg hk1] at hfr
    by_cases hk2:k=2
    · have e2:=eq_true hk2
      rw [if_pos hk2] at hfr
      have gl:=hq.get a
      by_cases c1:a<0
      · have x1:=eq_true c1
        have hbad:badN n p a y c e q=true:=by simp [badN,c1]
        rw [hbad] at hfr
        simp only [Bool.true_or,if_true] at hfr
        try simp only [go_sem,Int.reduceEq,Int.reduceLT,Int.reduceLE,↓reduceIte,Nat.reduceEqDiff,Nat.reduceAdd,Nat.reduceSub,Nat.reduceLT,Nat.reduceLeDiff,Nat.reduceMul,reduceCtorEq,tb106,e1,e2,x1,n54,decide_true,decide_false,Tr.embs_len,Cs.embs_len,Pick.embs_len]
        exact .mk (.refl _) (((Sub.refl _).skip _).skip _) ⟨by rw [hfr],by rw [hfr];exact (set_get gr).symm⟩
      · have x1:=eq_false c1
        by_cases c2:n≤a
        · have x2:=eq_true c2
          have hbad:badN n p a y c e q=true:=by simp [badN,c2]
          rw [hbad] at hfr
          simp only [Bool.true_or,if_true] at hfr
          try simp only [go_sem,Int.reduceEq,Int.reduceLT,Int.reduceLE,↓reduceIte,Nat.reduceEqDiff,Nat.reduceAdd,Nat.reduceSub,Nat.reduceLT,Nat.reduceLeDiff,Nat.reduceMul,reduceCtorEq,tb106,e1,e2,x1,x2,n54,decide_true,decide_false,Tr.embs_len,Cs.embs_len,Pick.embs_len]
          exact .mk (.refl _) (((Sub.refl _).skip _).skip _) ⟨by rw [hfr],by rw [hfr];exact (set_get gr).symm⟩
        · have x2:=eq_false c2
          try simp only [go_sem,Int.reduceEq,Int.reduceLT,Int.reduceLE,↓reduceIte,Nat.reduceEqDiff,Nat.reduceAdd,Nat.reduceSub,Nat.reduceLT,Nat.reduceLeDiff,Nat.reduceMul,reduceCtorEq,tb106,e1,e2,x1,x2,n54,decide_true,decide_false]
          refine alook_int (z:=.bool false) tb106.2.2.2.2.2.2.2.2.2.2.2.1 tb106.2.2.2.2.2.2.2.2.2.2.2.2.1 tb106.2.2.2.2.2.2.2.2.2.2.2.2.2.1 (by rw [get_other n5r,get_other n4r];exact gr) ?_
          rw [lkV_f,show AV.lift (.bool false)=vb false from rfl,gl]
          cases c3:seenB q a with
          | true =>
            have hbad:badN n p a y c e q=true:=by simp [badN,c3]
            rw [hbad] at hfr
            simp only [Bool.true_or,if_true] at hfr
            try simp only [go_sem,Int.reduceEq,Int.reduceLT,Int.reduceLE,↓reduceIte,Nat.reduceEqDiff,Nat.reduceAdd,Nat.reduceSub,Nat.reduceLT,Nat.reduceLeDiff,Nat.reduceMul,reduceCtorEq,tb106,e1,n54,decide_true,decide_false,Tr.embs_len,Cs.embs_len,Pick.embs_len]
            exact .mk (.refl _) (((Sub.refl _).skip _).skip _) ⟨by rw [hfr],by rw [hfr];exact (set_get gr).symm⟩
          | false =>
            by_cases c4:y.length=1
            · have x4:(((y.length:Nat):Int)=1)=True:=eq_true (by omega)
              by_cases c5:e.length=1
              · have x5:(((e.length:Nat):Int)=1)=True:=eq_true (by omega)
                by_cases c6:c.length=0
                · have x6:(((c.length:Nat):Int)=0)=True:=eq_true (by omega)
                  have hbad:badN n p a y c e q=true:=by simp [badN,c6]
                  rw [hbad] at hfr
                  simp only [Bool.true_or,if_true] at hfr
                  try simp only [go_sem,Int.reduceEq,Int.reduceLT,Int.reduceLE,↓reduceIte,Nat.reduceEqDiff,Nat.reduceAdd,Nat.reduceSub,Nat.reduceLT,Nat.reduceLeDiff,Nat.reduceMul,reduceCtorEq,tb106,x4,x5,x6,n54,decide_true,decide_false,Tr.embs_len,Cs.embs_len,Pick.embs_len]
                  exact .mk (.refl _) (((Sub.refl _).skip _).skip _) ⟨by rw [hfr],by rw [hfr];exact (set_get gr).symm⟩
                · have x6:(((c.length:Nat):Int)=0)=False:=eq_false (by omega)
                  by_cases c7:0<p.length
                  · have x7:((0:Int)<((p.length:Nat):Int))=True:=eq_true (by omega)
                    have hbad:badN n p a y c e q=true:=by simp [badN,c7]
                    rw [hbad] at hfr
                    simp only [Bool.true_or,if_true] at hfr
                    try simp only [go_sem,Int.reduceEq,Int.reduceLT,Int.reduceLE,↓reduceIte,Nat.reduceEqDiff,Nat.reduceAdd,Nat.reduceSub,Nat.reduceLT,Nat.reduceLeDiff,Nat.reduceMul,reduceCtorEq,tb106,x4,x5,x6,x7,n54,decide_true,decide_false,Tr.embs_len,Cs.embs_len,Pick.embs_len]
                    exact .mk (.refl _) (((Sub.refl _).skip _).skip _) ⟨by rw [hfr],by rw [hfr];exact (set_get gr).symm⟩
                  · have x7:((0:Int)<((p.length:Nat):Int))=False:=eq_false (by omega)
                    have hgood:badN n p a y c e q=false:=by simp [badN,c1,c2,c3,c4,c5,c6,c7]
                    rw [hgood,Bool.false_or] at hfr
                    try simp only [go_sem,Int.reduceEq,Int.reduceLT,Int.reduceLE,↓reduceIte,Nat.reduceEqDiff,Nat.reduceAdd,Nat.reduceSub,Nat.reduceLT,Nat.reduceLeDiff,Nat.reduceMul,reduceCtorEq,tb106,x4,x5,x6,x7,n54,decide_true,decide_false,Tr.embs_len,Cs.embs_len,Pick.embs_len]
                    obtain ⟨c0,cr,rfl⟩:=List.exists_cons_of_ne_nil (show c≠[] from fun h=>c6 (by rw [h];rfl))
                    refine ⟨by simp,fun d hd=>?_⟩
                    rw [show Int.toNat 0=0 from rfl] at hd
                    have hd2:d=c0.emb:=by simpa [Cs.embs] using hd.symm
                    subst hd2
                    have hisc:=isInc_Case _ cmpC rfl formed1_c (c0::cr) .none 7 (.inl rfl)
                    obtain ⟨s0,t0⟩:=c0
                    obtain ⟨k0,p0,a0,y0,cc0,e0⟩:=t0
                    try simp only [go_sem,Int.reduceEq,Int.reduceLT,Int.reduceLE,↓reduceIte,Nat.reduceEqDiff,Nat.reduceAdd,Nat.reduceSub,Nat.reduceLT,Nat.reduceLeDiff,Nat.reduceMul,reduceCtorEq,tb106,Cs.emb_mk]
                    refine ⟨fun q1=>?_,fun q1=>?_⟩
                    · refine hisc.use ?_
                      cases hb:incB cmpC (.mk s0 (.mk k0 p0 a0 y0 cc0 e0)::cr) with
                      | false =>
                        have hbc:badC (.mk s0 (.mk k0 p0 a0 y0 cc0 e0)::cr)=true:=by simp [badC,hb]
                        rw [hbc,if_pos rfl] at hfr
                        try simp only [go_sem,Int.reduceEq,Int.reduceLT,Int.reduceLE,↓reduceIte,Nat.reduceEqDiff,Nat.reduceAdd,Nat.reduceSub,Nat.reduceLT,Nat.reduceLeDiff,Nat.reduceMul,reduceCtorEq,tb106,decide_true,decide_false]
                        exact .mk (.refl _) (((Sub.refl _).skip _).skip _) ⟨by rw [hfr]<;>simp [hb],by rw [hfr];exact (set_get gr).symm⟩
                      | true =>
                        have hbc:badC (.mk s0 (.mk k0 p0 a0 y0 cc0 e0)::cr)=false:=by simp [badC,hb,Cs.name,q1]
                        rw [hbc,if_neg (by decide)] at hfr
                        try simp only [go_sem,Int.reduceEq,Int.reduceLT,Int.reduceLE,↓reduceIte,Nat.reduceEqDiff,Nat.reduceAdd,Nat.reduceSub,Nat.reduceLT,Nat.reduceLeDiff,Nat.reduceMul,reduceCtorEq,tb106,decide_true,decide_false]
                        refine amapUpd_int (l:=q.1) (c:=q.2) tb106.2.2.2.2.2.2.2.2.2.2.2.1 tb106.2.2.2.2.2.2.2.2.2.2.2.2.1 (by rw [get_other n5r,get_other n4r];exact gr) ?_
                        rw [set_other n5r,set_other n4r]
                        have hmo:AObj.map (embM keI (updL q.1 a (.val (.bool true)) q.2)) (updC q.1 a q.2)=mapO (putB q a true):=rfl
                        rw [hmo]
                        try simp only [go_sem,Int.reduceEq,Int.reduceLT,Int.reduceLE,↓reduceIte,Nat.reduceEqDiff,Nat.reduceAdd,Nat.reduceSub,Nat.reduceLT,Nat.reduceLeDiff,Nat.reduceMul,reduceCtorEq,tb106]
                        refine hpc.use ?_
                        try simp only [go_sem,Int.reduceEq,Int.reduceLT,Int.reduceLE,↓reduceIte,Nat.reduceEqDiff,Nat.reduceAdd,Nat.reduceSub,Nat.reduceLT,Nat.reduceLeDiff,Nat.reduceMul,reduceCtorEq,tb106]
                        refine (formedAny_c n l hmem b4 b5 r (putB q a true) (hq.put a true) _ (by rw [get_other n54,get_same]) (by rw [get_same]) (by rw [get_other n5r,get_other n4r,get_set_same gr]) n4r n5r).mono ?_
                        rintro x σ' ⟨rfl,rfl⟩
                        rw [set_other n5r,set_other n4r,set_set]
                        unfold twoV at hfr
                        obtain ⟨X,hX⟩:∃ X,X=frmTs n l (true,putB q a true):=⟨_,rfl⟩
                        rw [← hX] at hfr ⊢
                        obtain ⟨X1,X2⟩:=X
                        cases X1<;>try simp only [go_sem,Int.reduceEq,Int.reduceLT,Int.reduceLE,↓reduceIte,Nat.reduceEqDiff,Nat.reduceAdd,Nat.reduceSub,Nat.reduceLT,Nat.reduceLeDiff,Nat.reduceMul,reduceCtorEq,tb106,Bool.not_false,Bool.not_true]
                        · refine amapUpd_int (l:=X2.1) (c:=X2.2) tb106.2.2.2.2.2.2.2.2.2.2.2.1 tb106.2.2.2.2.2.2.2.2.2.2.2.2.1 (by rw [get_other n5r,get_other n4r,get_set_same gr];rfl) ?_
                          rw [set_other n5r,set_other n4r,set_set]
                          try simp only [go_sem,Int.reduceEq,Int.reduceLT,Int.reduceLE,↓reduceIte,Nat.reduceEqDiff,Nat.reduceAdd,Nat.reduceSub,Nat.reduceLT,Nat.reduceLeDiff,Nat.reduceMul,reduceCtorEq,tb106]
                          exact .mk (.refl _) (((Sub.refl _).skip _).skip _) ⟨by rw [hfr],by rw [hfr];rfl⟩
                        · refine amapUpd_int (l:=X2.1) (c:=X2.2) tb106.2.2.2.2.2.2.2.2.2.2.2.1 tb106.2.2.2.2.2.2.2.2.2.2.2.2.1 (by rw [get_other n5r,get_other n4r,get_set_same gr];rfl) ?_
                          rw [set_other n5r,set_other n4r,set_set]
                          try simp only [go_sem,Int.reduceEq,Int.reduceLT,Int.reduceLE,↓reduceIte,Nat.reduceEqDiff,Nat.reduceAdd,Nat.reduceSub,Nat.reduceLT,Nat.reduceLeDiff,Nat.reduceMul,reduceCtorEq,tb106]
                          exact .mk (.refl _) (((Sub.refl _).skip _).skip _) ⟨by rw [hfr],by rw [hfr];rfl⟩
                    · have hbc:badC (.mk s0 (.mk k0 p0 a0 y0 cc0 e0)::cr)=true:=by simp [badC,Cs.name,q1,emptyS]
                      rw [hbc,if_pos rfl] at hfr
                      try simp only [go_sem,Int.reduceEq,Int.reduceLT,Int.reduceLE,↓reduceIte,Nat.reduceEqDiff,Nat.reduceAdd,Nat.reduceSub,Nat.reduceLT,Nat.reduceLeDiff,Nat.reduceMul,reduceCtorEq,tb106,decide_true,decide_false]
                      exact .mk (.refl _) (((Sub.refl _).skip _).skip _) ⟨by rw [hfr]<;>simp [hb],by rw [hfr];exact (set_get gr).symm⟩
              · have x5:(((e.length:Nat):Int)=1)=False:=eq_false (by omega)
                have hbad:badN n p a y c e q=true:=by simp [badN,c5]
                rw [hbad] at hfr
                simp only [Bool.true_or,if_true] at hfr
                try simp only [go_sem,Int.reduceEq,Int.reduceLT,Int.reduceLE,↓reduceIte,Nat.reduceEqDiff,Nat.reduceAdd,Nat.reduceSub,Nat.reduceLT,Nat.reduceLeDiff,Nat.reduceMul,reduceCtorEq,tb106,x4,x5,n54,decide_true,decide_false,Tr.embs_len,Cs.embs_len,Pick.embs_len]
                exact .mk (.refl _) (((Sub.refl _).skip _).skip _) ⟨by rw [hfr],by rw [hfr];exact (set_get gr).symm⟩
            · have x4:(((y.length:Nat):Int)=1)=False:=eq_false (by omega)
              have hbad:badN n p a y c e q=true:=by simp [badN,c4]
              rw [hbad] at hfr
              simp only [Bool.true_or,if_true] at hfr
              try simp only [go_sem,Int.reduceEq,Int.reduceLT,Int.reduceLE,↓reduceIte,Nat.reduceEqDiff,Nat.reduceAdd,Nat.reduceSub,Nat.reduceLT,Nat.reduceLeDiff,Nat.reduceMul,reduceCtorEq,tb106,x4,n54,decide_true,decide_false,Tr.embs_len,Cs.embs_len,Pick.embs_len]
              exact .mk (.refl _) (((Sub.refl _).skip _).skip _) ⟨by rw [hfr],by rw [hfr];exact (set_get gr).symm⟩
    · have e2:=eq_false hk2
      rw [if_neg hk2] at hfr
      try simp only [go_sem,Int.reduceEq,Int.reduceLT,Int.reduceLE,↓reduceIte,Nat.reduceEqDiff,Nat.reduceAdd,Nat.reduceSub,Nat.reduceLT,Nat.reduceLeDiff,Nat.reduceMul,reduceCtorEq,tb106,e1,e2,decide_true,decide_false]
      exact .mk (.refl _) (((Sub.refl _).skip _).skip _) ⟨by rw [hfr]<;>simp [hk2],by rw [hfr];exact (set_get gr).symm⟩
theorem isFormed_c (n:Int)(h0:0≤n)(t:Tr)(hB:trN t≤bigN):Pur Tryz.prog 61 [.agg t.emb,vi n] (vb (isFormedS t n)):=by
  intro σ
  have hs:=size_c t 4000 hB (by omega) (by omega)
  have hf:=formed_c n h0 t hB
  unfold isFormedS
  obtain ⟨S,hS⟩:∃ S,S=sizeS t 4000:=⟨_,rfl⟩
  rw [← hS] at hs ⊢
  obtain ⟨F,hF⟩:∃ F,F=frm n t ([],0):=⟨_,rfl⟩
  unfold FrmIH at hf
  have hf':=hf ([],0)
  rw [← hF] at hf' ⊢
  clear hf
  obtain ⟨k,p,a,y,c,e⟩:=t
  simp only [Tr.emb_mk] at hs hf' ⊢
  refine acalls_of [] [] Tryz.func61 rfl (by kernel_rfl) ?_;rw [Tryz.ntmps61,Tryz.results61]
  try simp only [go_sem,Int.reduceEq,Int.reduceLT,Int.reduceLE,↓reduceIte,Nat.reduceEqDiff,Nat.reduceAdd,Nat.reduceSub,Nat.reduceLT,Nat.reduceLeDiff,Nat.reduceMul,reduceCtorEq,tb61]
  refine hs.use ?_
  by_cases h1:S≤4000
  · have e1:=eq_true h1
    try simp only [go_sem,Int.reduceEq,Int.reduceLT,Int.reduceLE,↓reduceIte,Nat.reduceEqDiff,Nat.reduceAdd,Nat.reduceSub,Nat.reduceLT,Nat.reduceLeDiff,Nat.reduceMul,reduceCtorEq,tb61,e1,decide_true]
    intro b hb
    try simp only [go_sem,Int.reduceEq,Int.reduceLT,Int.reduceLE,↓reduceIte,Nat.reduceEqDiff,Nat.reduceAdd,Nat.reduceSub,Nat.reduceLT,Nat.reduceLeDiff,Nat.reduceMul,reduceCtorEq,tb61]
    refine (hf' b _ (get_same _ _ _) (fun x v h=>by simp [lookL] at h)).mono ?_
    rintro x σ' ⟨rfl,rfl⟩
    rw [set_same]
    obtain ⟨F1,F2⟩:=F
    cases F1<;>try simp only [go_sem,Int.reduceEq,Int.reduceLT,Int.reduceLE,↓reduceIte,Nat.reduceEqDiff,Nat.reduceAdd,Nat.reduceSub,Nat.reduceLT,Nat.reduceLeDiff,Nat.reduceMul,reduceCtorEq,tb61]<;>exact fin_pur (.refl _) ((Sub.refl _).skip _)
  · have e1:=eq_false h1
    try simp only [go_sem,Int.reduceEq,Int.reduceLT,Int.reduceLE,↓reduceIte,Nat.reduceEqDiff,Nat.reduceAdd,Nat.reduceSub,Nat.reduceLT,Nat.reduceLeDiff,Nat.reduceMul,reduceCtorEq,tb61,e1,decide_false]
    exact fin_b (by simp)
end Go.Vx
end
section
set_option maxRecDepth 100000
namespace Go.Vx
open Go.Proofs
theorem tb16:(szOf Tryz.prog 25=some 2)∧(aggOf Tryz.prog 25=some true):=by
  refine ⟨?_,?_⟩<;>first | trivial | kernel_rfl
theorem tb26:(szOf Tryz.prog 25=some 2)∧(aggOf Tryz.prog 25=some true)∧(elOf Tryz.prog 23=some 3)∧(szOf Tryz.prog 3=some 1)∧(zeroOf Tryz.prog 3=some (.int .i64 0))∧(Tryz.prog.underlying 64=some (.slice 9))∧(bytesOf Tryz.prog 3=some 8):=by
  refine ⟨?_,?_,?_,?_,?_,?_,?_⟩<;>first | trivial | kernel_rfl
theorem rowsLoop_all (f:Flat)(l:List Pick)(out:List Row)(n:Nat)(q:List Row×Nat)(h:rowsLoop f l out n=some q)(hout:∀ r∈out,r.classes.length=n)(hn:n≤8∨out=[]):(∀ r∈q.1,r.classes.length=q.2)∧(q.2≤8∨q.1=[]):=by
  induction l generalizing out n with
  | nil=>simp only [rowsLoop,Option.some.injEq] at h;subst h;exact ⟨hout,hn⟩
  | cons x r ih =>
    simp only [rowsLoop] at h
    cases hc:clauseAt f x with
    | none=>rw [hc] at h;cases h
    | some c =>
      rw [hc] at h
      simp only at h
      split at h
      · cases h
      · rename_i hno
        refine ih _ _ h (fun r hr=>?_) (.inl (by omega))
        rcases List.mem_append.1 hr with hr | hr
        · have:=hout r hr
          have hlen:0<out.length:=List.length_pos_of_mem hr
          omega
        · simp at hr;subst hr;simp
theorem rows_facts (f:Flat)(pred:Str)(h:(rowsR f pred).2.2=0):chkF f=0∧(∀ r∈(rowsR f pred).1,r.classes.length=(rowsR f pred).2.1)∧(rowsR f pred).2.1≤8∧(rowsR f pred).1≠[]∧(rowsR f pred).1.map Row.pick=headsS f pred:=by
  unfold rowsR at h ⊢
  by_cases hc:chkF f≠0
  · rw [if_pos hc] at h;exact absurd h hc
  · rw [if_neg hc] at h ⊢
    cases hl:rowsLoop f (headsS f pred) [] 0 with
    | none=>rw [hl] at h;simp at h
    | some q =>
      obtain ⟨out,n⟩:=q
      rw [hl] at h
      simp only at h ⊢
      by_cases ho:out=[]
      · rw [if_pos ho] at h;simp at h
      · rw [if_neg ho]
        obtain ⟨a1,a2⟩:=rowsLoop_all f _ _ _ _ hl (by simp) (.inr rfl)
        refine ⟨by simpa using hc,a1,a2.resolve_right ho,ho,?_⟩
        have:=rowsLoop_len f _ _ _ _ hl
        simpa using this
theorem rows_len (f:Flat)(pred:Str):(rowsR f pred).1.length≤(headsS f pred).length:=by
  by_cases h:(rowsR f pred).2.2=0
  · have:=(rows_facts f pred h).2.2.2.2
    rw [← this];simp
  · have:(rowsR f pred).1=[]:=by
      unfold rowsR at h ⊢
      split
      · rfl
      · rename_i hc
        rw [if_neg hc] at h
        cases hl:rowsLoop f (headsS f pred) [] 0 with
        | none=>rfl
        | some q =>
          rw [hl] at h
          simp only at h ⊢
          split
          · rfl
          · rename_i ho;rw [if_neg ho] at h;exact absurd rfl h
    rw [this];simp
def clausesS (f:Flat)(pred:Str):List Pick×Nat×Int:=if (rowsR f pred).2.2≠0 then ([],0,(rowsR f pred).2.2) else ((rowsR f pred).1.map Row.pick,(rowsR f pred).2.1,0)
theorem clauses_c (f:Flat)(pred:Str)(hh:(headsS f pred).length≤137438953472):Pur Tryz.prog 16 [.agg f.emb,vs pred] (.tup [.list .none 2 (Pick.embs (clausesS f pred).1),vi ((clausesS f pred).2.1:Nat),vi (clausesS f pred).2.2]):=by
  intro σ
  have h:=rows_c f pred hh
  have hp:=picks_c (rowsR f pred).1 .none 3 (.inl rfl)
  unfold clausesS
  obtain ⟨⟨rs,n,e⟩,hr⟩:∃ q,q=rowsR f pred:=⟨_,rfl⟩
  rw [← hr] at h hp ⊢
  simp only at h hp ⊢
  simp only [Flat.emb] at h ⊢
  refine acalls_of [] [] Tryz.func16 rfl (by kernel_rfl) ?_;rw [Tryz.ntmps16,Tryz.results16]
  try simp only [go_sem,seval,tb16]
  refine h.use ?_
  try simp only [go_sem,seval,tb16]
  refine ⟨fun h1=>?_,fun h1=>?_⟩
  · rw [if_pos (by simpa using h1)]
    try simp only [go_sem,seval,tb16]
    exact fin_pur (.tup3 (.nilA _ _ _) (.refl _) (.refl _)) (.refl _)
  · have h1':e=0:=by simpa using h1
    subst h1'
    rw [if_neg (by simp)]
    try simp only [go_sem,seval,tb16]
    refine hp.use ?_
    try simp only [go_sem,seval,tb16]
    exact fin_pur (.refl _) (.refl _)
def wantedL (l:List Row)(n:Nat):List Int:=((List.range n).filter fun a=>!decide (namesS l a=[])).map fun a:Nat=>(a:Int)
def wantedS (f:Flat)(pred:Str):List Int×Int:=if (rowsR f pred).2.2≠0 then ([],(rowsR f pred).2.2) else (wantedL (rowsR f pred).1 (rowsR f pred).2.1,0)
theorem wantedL_succ (l:List Row)(n:Nat):wantedL l (n+1)=wantedL l n++(if namesS l n=[] then [] else [(n:Int)]):=by
  unfold wantedL
  rw [List.range_succ,List.filter_append,List.map_append]
  congr 1
  by_cases h:namesS l n=[]<;>simp [h]
theorem wantedL_len (l:List Row)(n:Nat):(wantedL l n).length≤n:=by
  unfold wantedL;rw [List.length_map];exact Nat.le_trans (List.length_filter_le _ _) (by simp)
theorem wanted_c (f:Flat)(pred:Str)(hh:(headsS f pred).length≤137438953472):Pur Tryz.prog 26 [.agg f.emb,vs pred] (.tup [.list .none 1 (ints (wantedS f pred).1),vi (wantedS f pred).2]):=by
  intro σ
  refine ACalls.nodup (by kernel_rfl) (fun hnd=>?_)
  have h:=rows_c f pred hh
  have hf:=rows_facts f pred
  have hlen:=rows_len f pred
  unfold wantedS
  obtain ⟨⟨rs,n,e⟩,hr⟩:∃ q,q=rowsR f pred:=⟨_,rfl⟩
  rw [← hr] at h hf hlen ⊢
  simp only at h hf hlen ⊢
  simp only [Flat.emb] at h ⊢
  refine acalls_of [] [] Tryz.func26 rfl (by kernel_rfl) ?_;rw [Tryz.ntmps26,Tryz.results26]
  try simp only [go_sem,seval,tb26]
  refine h.use ?_
  try simp only [go_sem,seval,tb26]
  refine ⟨fun h1=>?_,fun h1=>?_⟩
  · rw [if_pos (by simpa using h1)]
    try simp only [go_sem,seval,tb26]
    exact fin_pur (.tup2 (.nilA _ _ _) (.refl _)) (.refl _)
  · have h1':e=0:=by simpa using h1
    subst h1'
    rw [if_neg (by simp)]
    obtain ⟨_,f1,f2,f3,f4⟩:=hf rfl
    try simp only [go_sem,seval,tb26]
    refine aloopT (mu:=[]) (dr:=[]) [9,10,22,23,24,25,26,27,28,29,30,31,32,33,34] (fun x:Nat×AV×Store=>[(22,vi x.1),(9,x.2.1)]) (fun x=>x.2.2) (fun x=>x.1≤n∧LV σ x.2.2 x.2.1 1 (ints (wantedL rs x.1))∧Has σ x.2.2) (fun x=>n-x.1) (0,.list .full 0 [],σ) (by kernel_rfl) ⟨by omega,LV.nil _ _ _,.refl _⟩ ⟨.refl _,.refl _,trivial⟩ (.refl _) ?_
    rintro ⟨i,v,S⟩ ⟨i1,i2,i3⟩
    simp only at i1 i2 i3
    try simp only [go_sem,seval,tb26]
    refine ⟨fun h2=>?_,fun h2=>?_⟩
    · try simp only [go_sem,seval,tb26]
      refine (namesAt_c rs i (by omega) (fun r hr=>by rw [f1 r hr];omega) .none 3 (.inl rfl)).use ?_
      try simp only [go_sem,seval,tb26]
      have hs:=wantedL_succ rs i
      have hwl:=wantedL_len rs i
      have hw:IntKind.i64.wrap ((i:Int)+1)=((i+1:Nat):Int):=wrap64 (by omega) (by omega)
      by_cases hn:namesS rs i=[]
      · rw [if_pos hn,List.append_nil] at hs
        have h0:(0<(((strs (namesS rs i)).length:Nat):Int))=False:=by rw [hn];simp
        try simp only [go_sem,seval,tb26,h0,decide_false]
        rw [hw]
        exact .mk (i+1,v,S) ⟨by simp only;omega,by simp only [hs];exact i2,i3⟩ (by simp only;omega) ⟨.refl _,.refl _,trivial⟩ (by repeat first | exact Keeps.turn _ rfl | refine Keeps.put rfl ?_) (.refl _)
      · rw [if_neg hn] at hs
        have h0:(0<(((strs (namesS rs i)).length:Nat):Int))=True:=by
          have:(namesS rs i).length≠0:=fun h=>hn (List.length_eq_zero_iff.1 h)
          simp;omega
        try simp only [go_sem,seval,tb26,h0,decide_true,i2.one,i2.cells]
        refine ⟨rfl,i2.append rfl (by decide) (by simp [ints];omega) rfl (by simp) i3 (fun v' S' hv' hkp hS'=>?_)⟩
        try simp only [go_sem,seval,tb26,hv'.one,hv'.cells]
        rw [hw]
        exact .mk (i+1,v',S') ⟨by simp only;omega,by simp only [hs,ints,List.map_append];exact hv',hS'⟩ (by simp only;omega) ⟨.refl _,.refl _,trivial⟩ (by repeat first | exact Keeps.turn _ rfl | refine Keeps.put rfl ?_) (.refl _)
    · have hin:i=n:=by omega
      subst hin
      try simp only [go_sem,seval,tb26,i2.one,i2.cells]
      exact .mk (.tup2 i2.wk (.refl _)) (i3.sub hnd) ⟨rfl,rfl⟩
end Go.Vx
end
