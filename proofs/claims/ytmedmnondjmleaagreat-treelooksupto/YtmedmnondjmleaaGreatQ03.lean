/- Part Q03 of the proof of treeLooksProved: the walk of the program on abstract values, and the plain law. -/
import Derived.Test.YtmedmnondjmleaaGreatQ02
set_option linter.unusedVariables false
set_option linter.unusedSimpArgs false
section
namespace Go.Vx
open Go.RowKit
def XC (s:Nat):List AV→Option (List (List AV))
 | []=>some []
 | a::r=>match a.cells,XC s r with
   | some cs,some l=>if cs.length=s then some (cs::l) else none
   | _,_=>none
theorem T9 {s:Nat}:∀ (as:List AV) (es:List (List AV)),XC s as=some es→es.length=as.length∧∀ (i:Nat) (e:List AV),es[i]?=some e→e.length=s:=by
 intro as
 induction as with
 | nil=>intro es h;simp [XC] at h;subst h;simp
 | cons a r ih =>
   intro es h
   simp only [XC] at h
   split at h
   ·rename_i cs l hc hl
    split at h
    ·rename_i hs
     injection h with h
     subst h
     obtain ⟨h1,h2⟩:=ih l hl
     refine ⟨by simp [h1],fun i e he=>?_⟩
     cases i with
     | zero=>simp at he;subst he;exact hs
     | succ i=>exact h2 i e (by simpa using he)
    ·cases h
   ·cases h
def TZ (vs:List Value):List Value:=vs.flatMap (·.cells.toList)
theorem Sw (v:Value)(r:List Value):TZ (v::r)=v.cells.toList++TZ r:=by simp [TZ]
theorem Em {s:Nat}:∀ vs:List Value,(∀ v∈vs,v.cells.toList.length=s)→(TZ vs).length=vs.length * s:=by
 intro vs
 induction vs with
 | nil=>intro _;simp [TZ]
 | cons v r ih =>
   intro h
   rw [Sw,List.length_append,ih (fun x hx=>h x (List.mem_cons_of_mem _ hx)),h v List.mem_cons_self,List.length_cons,Nat.succ_mul]
   omega
theorem Eo {s:Nat}:∀ (vs:List Value) (k:Nat) (done rest:List Value),done.length=k * s→rest.length=vs.length * s→(∀ v∈vs,v.cells.toList.length=s) →
 Instr.fill (fun i=>some (i * s,s)) (done++rest).toArray ((List.range' k vs.length).zip vs)=some (done++TZ vs).toArray:=by
 intro vs
 induction vs with
 | nil=>intro k done rest h1 h2 h3;simp at h2;subst h2;simp [Instr.fill,TZ]
 | cons v r ih =>
   intro k done rest h1 h2 h3
   have hv:=h3 v List.mem_cons_self
   have hs:v.cells.size=s:=by simpa using hv
   simp only [List.length_cons] at h2
   have e2:(r.length+1) * s=r.length * s+s:=Nat.succ_mul _ _
   simp only [List.length_cons,List.range'_succ,List.zip_cons_cons,Instr.fill]
   rw [if_neg (by simp only [List.size_toArray,List.length_append,Bool.or_eq_true,decide_eq_true_eq,not_or,ne_eq,decide_not,Bool.not_eq_true',decide_eq_false_iff_not,Classical.not_not];omega)]
   have hf:=Om (k * s) v.cells.toList 0 (done++rest) (by simp only [List.length_append];omega)
   simp only [Nat.add_zero] at hf
   rw [← h1,List.take_append_length] at hf
   have hd:(done++rest).drop (done.length+v.cells.toList.length)=rest.drop s:=by
    rw [hv,List.drop_append,List.drop_of_length_le (by omega)]
    simp
   rw [hd] at hf
   have:=ih (k+1) (done++v.cells.toList) (rest.drop s) (by rw [List.length_append,hv,h1,Nat.succ_mul]) (by rw [List.length_drop];omega) (fun x hx=>h3 x (List.mem_cons_of_mem _ hx))
   rw [Sw,← List.append_assoc,← this]
   congr 1
   apply Array.toList_inj.1
   rw [List.append_assoc,← hf,← Array.foldl_toList,h1]
   simp
theorem En {s:Nat}:∀ (vs:List Value),(∀ v∈vs,v.cells.toList.length=s)→∀ (i j:Nat) (v:Value),vs[i]?=some v→j<s→(TZ vs)[i * s+j]?=v.cells.toList[j]?:=by
 intro vs
 induction vs with
 | nil=>intro _ i j v h;simp at h
 | cons x r ih =>
   intro h i j v hv hj
   have hx:=h x List.mem_cons_self
   rw [Sw]
   cases i with
   | zero=>simp at hv;subst hv;simp only [Nat.zero_mul,Nat.zero_add];rw [List.getElem?_append_left (by omega)]
   | succ i =>
     rw [List.getElem?_append_right (by rw [hx,Nat.succ_mul];omega),hx,show (i+1) * s+j-s=i * s+j from by rw [Nat.succ_mul];omega]
     exact ih (fun y hy=>h y (List.mem_cons_of_mem _ hy)) i j v (by simpa using hv) hj
theorem M8 {L:Nat→Nat→Prop}{w:World}{s:Nat}:∀ (as:List AV) (es:List (List AV)) (vs:List Value),XC s as=some es→as.length=vs.length →
 (∀ (i:Nat) (a:AV) (v:Value),as[i]?=some a→vs[i]?=some v→V L w a v) →
 (∀ v∈vs,v.cells.toList.length=s)∧∀ (i:Nat) (e:List AV) (j:Nat) (c:AV) (x:Value),es[i]?=some e→e[j]?=some c→(TZ vs)[i * s+j]?=some x→V L w c x:=by
 intro as es vs h hl hv
 have h1:∀ (as:List AV) (es:List (List AV)),XC s as=some es→∀ (i:Nat) (a:AV),as[i]?=some a→∃ e,es[i]?=some e∧a.cells=some e∧e.length=s:=by
  intro as
  induction as with
  | nil=>intro es _ i a h;simp at h
  | cons b r ih =>
    intro es h i a ha
    simp only [XC] at h
    split at h
    ·rename_i cs l hc hl
     split at h
     ·rename_i hs
      injection h with h
      subst h
      cases i with
      | zero=>simp at ha;subst ha;exact ⟨cs,rfl,hc,hs⟩
      | succ i=>obtain ⟨e,he,k⟩:=ih l hl i a (by simpa using ha);exact ⟨e,by simpa using he,k⟩
     ·cases h
    ·cases h
 have hc:∀ v∈vs,v.cells.toList.length=s:=by
  intro v hvm
  obtain ⟨i,hi,rfl⟩:=List.mem_iff_getElem.1 hvm
  have hi':i<as.length:=by omega
  obtain ⟨e,_,hce,hel⟩:=h1 as es h i as[i] (List.getElem?_eq_getElem hi')
  have:=((hv i as[i] vs[i] (List.getElem?_eq_getElem hi') (List.getElem?_eq_getElem hi)).cells_of hce).1
  omega
 refine ⟨hc,fun i e j c x hei hcj hx=>?_⟩
 have hil:i<as.length:=by
  have h2:=(T9 as es h).1
  have:=(List.getElem?_eq_some_iff.1 hei).1
  omega
 obtain ⟨e',he',hce,hel⟩:=h1 as es h i as[i] (List.getElem?_eq_getElem hil)
 rw [hei] at he'
 injection he' with he'
 subst he'
 have hj:j<s:=by have:=(List.getElem?_eq_some_iff.1 hcj).1;omega
 have hiv:i<vs.length:=by omega
 rw [En vs hc i j vs[i] (List.getElem?_eq_getElem hiv) hj] at hx
 exact ((hv i as[i] vs[i] (List.getElem?_eq_getElem hil) (List.getElem?_eq_getElem hiv)).cells_of hce).2 j c x hcj hx
theorem dO {L L':Nat→Nat→Prop}{w:World}{s:Nat}{es:List (List AV)}{xs:List Value}{T:TypeId}{cap b:Nat}(r:Rt)(hb:w.heap[b]?=some (.cells xs.toArray T (0,0)))
 (hcap:es.length≤cap) (hlim:es.length≤lim) (hsz:∀ (i:Nat) (e:List AV),es[i]?=some e→e.length=s) (hr:Pe r (some ⟨b,0,none⟩) es.length cap s)
 (hlen:es.length * s≤xs.length) (hL:∀ k,k<es.length * s→¬ L' b k) (h1:∀ (i:Nat) (e:List AV),es[i]?=some e→e.all AV.one=true)
 (hv:∀ (i:Nat) (e:List AV) (j:Nat) (c:AV) (x:Value),es[i]?=some e→e[j]?=some c→xs[i * s+j]?=some x→V L' w c x) :
 V L' w (.list r s es) (.slice (some ⟨b,0,none⟩) es.length cap):=by
 have idx:∀ (i:Nat) (e:List AV) (j:Nat) (c:AV),es[i]?=some e→e[j]?=some c→i * s+j<es.length * s:=by
  intro i e j c he hc
  have hi:=(List.getElem?_eq_some_iff.1 he).1
  have hj:=(List.getElem?_eq_some_iff.1 hc).1
  rw [hsz i e he] at hj
  calc i * s+j<i * s+s:=by omega
   _=(i+1) * s:=(Nat.succ_mul _ _).symm
   _≤es.length * s:=Nat.mul_le_mul_right _ hi
 refine .list r s es cap _ b 0 (fun k=>xs.getD k .nilFunc) hcap hlim hsz (fun _=>rfl) hr (fun i e j c he hc=>?_) (fun i e j c he hc=>?_)
 ·have hk:=idx i e j c he hc
  have hlt:i * s+j<xs.length:=by omega
  refine iK ?_
  refine ⟨hL _ hk,?_,?_⟩
  ·unfold World.cell?;simp only [hb];simp [hlt]
  ·have:=(hv i e j c xs[i * s+j] he hc (List.getElem?_eq_getElem hlt)).one_of (List.all_eq_true.1 (h1 i e he) c (List.mem_of_getElem? hc))
   simpa [hlt] using this
 ·have hk:=idx i e j c he hc
  have hlt:i * s+j<xs.length:=by omega
  have:=hv i e j c xs[i * s+j] he hc (List.getElem?_eq_getElem hlt)
  simpa [hlt] using this
def YU (P:Program)(t:TypeId)(len:Nat)(ps:List (Nat×AV))(K:AV→Prop):Prop :=
 match ZA P t with
 | some e=>match Zh P e,Zl P e with
   | some s,some z=>0<s∧ps.map (·.1)=List.range len∧len * s≤16777216∧z.cells.size=s∧match XC s (ps.map (·.2)) with
     | some es=>es.all (fun e=>e.all AV.one)=true∧K (.list .full s es)
     | none=>False
   | _,_=>False
 | none=>False
theorem J1 {α:Type}(l:List (Nat×α)):l=(l.map (·.1)).zip (l.map (·.2)):=by
 induction l with
 | nil=>rfl
 | cons p r ih=>simp only [List.map_cons,List.zip_cons_cons];rw [← ih]
theorem Sb {P:Program}{t:TypeId}{len:Nat}{ps:List (Nat×AV)}{qs:Array (Nat×Value)}{K:AV→Prop}{σ:Store}{w:World}(h:YU P t len ps K)(hσ:Zo σ w)
 (hk:ps.map (·.1)=qs.toList.map (·.1)) (hq:∀ (i:Nat) (p:Nat×AV) (q:Nat×Value),ps[i]?=some p→qs.toList[i]?=some q→V (live σ) w p.2 q.2) :
 ∃ y w' av,(Instr.buildSlice t len qs).run P w=.ok y w'∧V (live σ) w' av y∧Zo σ w'∧Ev σ w σ w'∧K av:=by
 unfold YU at h
 split at h
 ·rename_i e he
  split at h
  ·rename_i s z hs hz
   obtain ⟨hs0,h1,h2,h3,h⟩:=h
   split at h
   ·rename_i es hes
    obtain ⟨h4,h⟩:=h
    have hlen:ps.length=len:=by have:=congrArg List.length h1;simpa using this
    have hql:qs.toList.length=len:=by have:=congrArg List.length hk;simp only [List.length_map] at this;omega
    obtain ⟨e1,e2⟩:=T9 _ _ hes
    obtain ⟨c1,c2⟩:=M8 (L:=live σ) (w:=w) (ps.map (·.2)) es (qs.toList.map (·.2)) hes (by simp only [List.length_map];omega) (fun i a v ha hv=>by
     simp only [List.getElem?_map,Option.map_eq_some_iff] at ha hv
     obtain ⟨p,hp,rfl⟩:=ha
     obtain ⟨q,hq',rfl⟩:=hv
     exact hq i p q hp hq')
    simp only [List.length_map] at e1
    have hfl:=Em (s:=s) (qs.toList.map (·.2)) c1
    simp only [List.length_map,hql] at hfl
    let zc:Array Value:=if len * s=0 then #[] else z.cells
    have hfill:Instr.fill (fun i=>some (i * s,s)) ((Array.range (len * s)).map (zc[· % zc.size]!)) qs.toList=some (TZ (qs.toList.map (·.2))).toArray:=by
     have:=Eo (s:=s) (qs.toList.map (·.2)) 0 [] ((Array.range (len * s)).map (zc[· % zc.size]!)).toList (by simp) (by simp [hql]) c1
     simp only [List.nil_append,List.length_map,hql] at this
     rw [← List.range_eq_range',← h1,hk,← J1,Array.toArray_toList] at this
     exact this
    have hrun:(Instr.buildSlice t len qs).run P w=.ok (.slice (some ⟨w.heap.size,0,none⟩) len len) (w.alloc (.cells (TZ (qs.toList.map (·.2))).toArray e)):=by
     have hno:¬ len * s > 2 ^ 24:=by omega
     unfold Instr.buildSlice
     simp only [Sem.run_bind,run_underlying (Xo he),Result.andThen_ok,Z2 hs,hno,if_false,Sem.run_pure]
     by_cases h0:len * s=0
     ·have hz0:zc=#[]:=by simp [zc,h0]
      rw [hz0] at hfill
      simp only [h0,if_true,Sem.run_bind,Sem.run_pure,Result.andThen_ok] at hfill ⊢
      rw [hfill]
      simp [newRow]
     ·have hz0:zc=z.cells:=by simp [zc,h0]
      rw [hz0] at hfill
      simp only [h0,if_false,Sem.run_bind,WL hz,Sem.run_pure,Result.andThen_ok]
      rw [hfill]
      simp [newRow]
    have ev:=Ev.alloc0 (σ:=σ) (w:=w) (.cells (TZ (qs.toList.map (·.2))).toArray e)
    refine ⟨_,_,_,hrun,?_,hσ.alloc0 _,ev,h⟩
    have hel:es.length=len:=by omega
    have key:=dO (L:=live σ) (L':=live σ) (w:=w.alloc (.cells (TZ (qs.toList.map (·.2))).toArray e)) (s:=s) (es:=es) (xs:=TZ (qs.toList.map (·.2))) (T:=e) (cap:=len) (b:=w.heap.size) .full
     (Xp w _) (by omega) (by
      have:=Nat.le_mul_of_pos_right len hs0
      simp only [lim];omega) e2 (by simp [Pe,hel]) (by rw [hel];omega) (fun k hk hl=>absurd (O3 hσ hl) (by omega))
     (fun i x hx=>List.all_eq_true.1 h4 x (List.mem_of_getElem? hx)) (fun i x j c y hx hc hy=>(c2 i x j c y hx hc hy).ev ev)
    rw [hel] at key
    exact key
   ·exact eY
  ·exact eY
 ·exact eY
end Go.Vx
end
section
namespace Go.Vx
open Go.RowKit
structure YA (L:Nat→Nat→Prop) (w:World) (s:Nat) (es:List (List AV)) (xs:List Value):Prop where
 len:xs.length=es.length * s
 sz:∀ (i:Nat) (e:List AV),es[i]?=some e→e.length=s
 v:∀ (i:Nat) (e:List AV) (j:Nat) (c:AV) (y:Value),es[i]?=some e→e[j]?=some c→xs[i * s+j]?=some y→V L w c y
 one:∀ x∈xs,x.oneCell'=true
theorem YA.ev {σ σ':Store}{w w':World}{s:Nat}{es:List (List AV)}{xs:List Value}(h:YA (live σ) w s es xs)(e:Ev σ w σ' w'):YA (live σ') w' s es xs :=
 ⟨h.len,h.sz,fun i x j c y a b d=>(h.v i x j c y a b d).ev e,h.one⟩
theorem YA.append {L:Nat→Nat→Prop}{w:World}{s:Nat}{es ys:List (List AV)}{xs zs:List Value}(h:YA L w s es xs)(k:YA L w s ys zs):YA L w s (es++ys) (xs++zs) where
 len:=by rw [List.length_append,List.length_append,h.len,k.len,Nat.add_mul]
 sz i e he:=by
  by_cases hi:i<es.length
  ·rw [List.getElem?_append_left hi] at he;exact h.sz i e he
  ·rw [List.getElem?_append_right (by omega)] at he;exact k.sz _ e he
 v i e j c y he hc hy:=by
   by_cases hi:i<es.length
   ·rw [List.getElem?_append_left hi] at he
    have hj:j<s:=by have:=(List.getElem?_eq_some_iff.1 hc).1;rw [h.sz i e he] at this;exact this
    have hlt:i * s+j<xs.length:=by
     rw [h.len]
     calc i * s+j<i * s+s:=by omega
      _=(i+1) * s:=(Nat.succ_mul _ _).symm
      _≤es.length * s:=Nat.mul_le_mul_right _ hi
    rw [List.getElem?_append_left hlt] at hy
    exact h.v i e j c y he hc hy
   ·rw [List.getElem?_append_right (by omega)] at he
    have hge:xs.length≤i * s+j:=by rw [h.len];have:=Nat.mul_le_mul_right s (show es.length≤i by omega);omega
    rw [List.getElem?_append_right hge] at hy
    have e2:i * s+j-xs.length=(i-es.length) * s+j:=by rw [h.len,Nat.sub_mul];have:=Nat.mul_le_mul_right s (show es.length≤i by omega);omega
    rw [e2] at hy
    exact k.v _ e j c y he hc hy
 one x hx:=by
  rcases List.mem_append.1 hx with hx | hx
  ·exact h.one x hx
  ·exact k.one x hx
theorem V.list_form {L:Nat→Nat→Prop}{w:World}{r:Rt}{s:Nat}{es:List (List AV)}{v:Value}(h:V L w (.list r s es) v) :
 ∃ (a:Option Addr) (cap b o:Nat) (xs:List Value),v=.slice a es.length cap∧es.length≤cap∧es.length≤lim∧Pe r a es.length cap s∧(es≠[]→a=some ⟨b,o,none⟩)∧YA L w s es xs ∧
   (∀ k x,xs[k]?=some x→¬ L b (o+k)∧w.cell? ⟨b,o+k,none⟩=some x):=by
 cases h with
 | list _ _ _ cap a b o rd hcap hlim hsz ha hr h1 h2 =>
   have split:∀ k,k<es.length * s→∃ i j e c,k=i * s+j∧es[i]?=some e∧e[j]?=some c:=by
    intro k hk
    have hs:0<s:=Nat.pos_of_ne_zero (by rintro rfl;simp at hk)
    have hi:k / s<es.length:=(Nat.div_lt_iff_lt_mul hs).2 hk
    have hj:k % s<s:=Nat.mod_lt _ hs
    have he:=hsz (k / s) es[k / s] (List.getElem?_eq_getElem hi)
    exact ⟨k / s,k % s,es[k / s],es[k / s][k % s]'(by omega),by rw [Nat.mul_comm];exact (Nat.div_add_mod k s).symm,List.getElem?_eq_getElem hi,List.getElem?_eq_getElem (by omega)⟩
   refine ⟨a,cap,b,o,(List.range (es.length * s)).map rd,rfl,hcap,hlim,hr,ha,⟨by simp,hsz,fun i e j c y he hc hy=>?_,fun x hx=>?_⟩,fun k x hx=>?_⟩
   ·simp only [List.getElem?_map,Option.map_eq_some_iff] at hy
    obtain ⟨k,hk,rfl⟩:=hy
    have hlt:=(List.getElem?_eq_some_iff.1 hk).1
    rw [List.getElem?_range (by simpa using hlt)] at hk
    injection hk with hk
    subst hk
    exact h2 i e j c he hc
   ·simp only [List.mem_map,List.mem_range] at hx
    obtain ⟨k,hk,rfl⟩:=hx
    obtain ⟨i,j,e,c,rfl,he,hc⟩:=split k hk
    exact (h1 i e j c he hc).2.2
   ·simp only [List.getElem?_map,Option.map_eq_some_iff] at hx
    obtain ⟨k',hk,rfl⟩:=hx
    have hlt:=(List.getElem?_eq_some_iff.1 hk).1
    simp only [List.length_range] at hlt
    rw [List.getElem?_range hlt] at hk
    injection hk with hk
    subst hk
    obtain ⟨i,j,e,c,rfl,he,hc⟩:=split k hlt
    have:=h1 i e j c he hc
    exact ⟨this.1,this.2.1⟩
theorem dH {L:Nat→Nat→Prop}{w:World}{s:Nat}{es:List (List AV)}{xs:List Value}{cap b o:Nat}{a:Option Addr}(r:Rt)(hcap:es.length≤cap)(hlim:es.length≤lim)(hr:Pe r a es.length cap s)
 (ha:es≠[]→a=some ⟨b,o,none⟩) (hc:YA L w s es xs) (hx:∀ k x,xs[k]?=some x→¬ L b (o+k)∧w.cell? ⟨b,o+k,none⟩=some x):V L w (.list r s es) (.slice a es.length cap):=by
 have idx:∀ (i:Nat) (e:List AV) (j:Nat) (c:AV),es[i]?=some e→e[j]?=some c→i * s+j<xs.length:=by
  intro i e j c he hcj
  have hi:=(List.getElem?_eq_some_iff.1 he).1
  have hj:=(List.getElem?_eq_some_iff.1 hcj).1
  rw [hc.sz i e he] at hj
  rw [hc.len]
  calc i * s+j<i * s+s:=by omega
   _=(i+1) * s:=(Nat.succ_mul _ _).symm
   _≤es.length * s:=Nat.mul_le_mul_right _ hi
 refine .list r s es cap a b o (fun k=>xs.getD k .nilFunc) hcap hlim hc.sz ha hr (fun i e j c he hcj=>?_) (fun i e j c he hcj=>?_)
 ·have hk:=idx i e j c he hcj
  obtain ⟨q1,q2⟩:=hx _ _ (List.getElem?_eq_getElem hk)
  have:=hc.one _ (List.getElem_mem hk)
  simp only [List.getD_eq_getElem?_getD,List.getElem?_eq_getElem hk,Option.getD_some]
  exact ⟨q1,q2,this⟩
 ·have hk:=idx i e j c he hcj
  have:=hc.v i e j c _ he hcj (List.getElem?_eq_getElem hk)
  simpa [hk] using this
theorem XP {P:Program}{L:Nat→Nat→Prop}{w:World}{s sz:Nat}{es:List (List AV)}{xs:List Value}{a:Option Addr}{cap b o:Nat}(hs:s=sz∨es=[])(ha:es≠[]→a=some ⟨b,o,none⟩)
 (hc:YA L w s es xs) (hx:∀ k x,xs[k]?=some x→¬ L b (o+k)∧w.cell? ⟨b,o+k,none⟩=some x):(Builtin.firstCells sz es.length (.slice a es.length cap)).run P w=.ok xs.toArray w:=by
 by_cases he:es=[]
 ·subst he
  have:xs=[]:=by have:=hc.len;simpa using this
  subst this
  cases a with
  | none=>rfl
  | some a=>simp [Builtin.firstCells,loadCells,loadCellsFrom]
 ·rw [ha he]
  have hsz:s=sz:=hs.resolve_right he
  subst hsz
  simp only [Builtin.firstCells]
  rw [← hc.len]
  refine run_loadCells_list (w:=w) _ xs (fun j v hj=>?_)
  rw [YY]
  exact (hx j v hj).2
def UY (P:Program)(sT xT:TypeId)(s x:AV)(σ:Store)(K:AV→Store→Prop):Prop :=
 match ZA P sT,s,x with
 | some e,.list r s1 es,.list _ s2 ys=>match Zh P e,Zl P e,ZQ P e with
   | some sz,some z,some by_=>(ZA P xT).isSome=true∧z.cells.size=sz∧by_≤512∧es.length+ys.length≤lim∧(s1=sz∨es=[])∧(s2=sz∨ys=[]) ∧
     match r with
     | .full=>(ys=[]→K (.list .full s1 es) σ)∧(ys≠[]→∀ b e c,Zx σ b→K (.list (.tip b e c) sz (es++ys)) ((b,.tail e c)::σ))
     | .tip b0 e0 c0=>σ.get b0=some (.tail e0 c0)∧s1=sz∧∀ b e c,Zx (σ.del b0) b→K (.list (.tip b e c) sz (es++ys)) ((b,.tail e c)::σ.del b0)
     | .none=>ys=[]∧K (.list .none s1 es) σ
   | _,_,_=>False
 | _,_,_=>False
theorem L3 (need cap:Nat)(h:¬ need≤cap):Builtin.nextslicecap need cap≤2 * need+768:=by
 have grow:∀ r c,c≤2 * need+768→Builtin.growBy need r c≤2 * need+768:=by
  intro r
  induction r with
  | zero=>intro c h;exact h
  | succ r ih =>
    intro c hc
    simp only [Builtin.growBy]
    split
    ·exact hc
    ·exact ih _ (by omega)
 unfold Builtin.nextslicecap
 split
 ·omega
 ·split
  ·omega
  ·exact grow 4 cap (by omega)
theorem XQ (σ:Store)(b:Nat):Sub (σ.del b) σ:=by
 induction σ with
 | nil=>exact Sub.refl _
 | cons p r ih =>
   obtain ⟨c,x⟩:=p
   simp only [Store.del]
   split
   ·exact Sub.cons r _
   ·refine ⟨fun q hq=>?_,fun hn=>?_⟩
    ·simp only [List.mem_cons] at hq ⊢
     exact hq.imp id (fun h=>ih.1 q h)
    ·simp only [List.map_cons,List.nodup_cons] at hn ⊢
     refine ⟨fun hm=>hn.1 ?_,ih.2 hn.2⟩
     simp only [List.mem_map] at hm ⊢
     obtain ⟨q,hq,e⟩:=hm
     exact ⟨q,ih.1 q hq,e⟩
theorem UC {σ:Store}(hn:(σ.map (·.1)).Nodup)(b:Nat)(x:AObj):(b,x) ∉ σ.del b:=by
 induction σ with
 | nil=>simp [Store.del]
 | cons p r ih =>
   obtain ⟨c,y⟩:=p
   simp only [List.map_cons,List.nodup_cons] at hn
   simp only [Store.del]
   split
   ·rename_i e
    subst e
    intro h
    exact hn.1 (List.mem_map_of_mem (f:=(·.1)) h)
   ·rename_i e
    intro h
    simp only [List.mem_cons,Prod.mk.injEq] at h
    rcases h with ⟨h,_⟩ | h
    ·exact e h.symm
    ·exact ih hn.2 h
theorem Vc {σ:Store}{b b':Nat}{x:AObj}(h:(b',x)∈σ)(hne:b'≠b):(b',x)∈σ.del b:=by
 induction σ with
 | nil=>simp at h
 | cons p r ih =>
   obtain ⟨c,y⟩:=p
   simp only [Store.del]
   simp only [List.mem_cons,Prod.mk.injEq] at h
   split
   ·rename_i e
    rcases h with ⟨rfl,_⟩ | h
    ·exact absurd e hne
    ·exact h
   ·rcases h with ⟨rfl,rfl⟩ | h
    ·exact List.mem_cons_self
    ·exact List.mem_cons_of_mem _ (ih h)
theorem M3 {P:Program}{σ σd:Store}{w:World}{e:TypeId}{sz:Nat}{es ys:List (List AV)}{xs zs rest:List Value}{need newCap:Nat}(hσ:Zo σ w)(hsub:Sub σd σ)
 (hc:YA (live σ) w sz (es++ys) (xs++zs)) (hneed:need=(es++ys).length) (hle:need≤newCap) (hlim:need≤lim) (hrest:rest.length=(newCap-need) * sz) :
 let w':=World.alloc { w with drawn:=w.drawn+1 } (.cells (xs++zs++rest).toArray e)
 V (live ((w.heap.size,.tail (need * sz) (newCap * sz))::σd)) w' (.list (.tip w.heap.size (need * sz) (newCap * sz)) sz (es++ys)) (.slice (some ⟨w.heap.size,0,none⟩) need newCap) ∧
   Zo ((w.heap.size,.tail (need * sz) (newCap * sz))::σd) w'∧Ev σ w ((w.heap.size,.tail (need * sz) (newCap * sz))::σd) w':=by
 intro w'
 have h0:=(hσ.sub hsub).drew
 have e0:=(hsub.ev w).trans (Ev.drew σd w)
 have hlen:(xs++zs).length=need * sz:=by rw [hc.len,hneed]
 have htot:need * sz+(newCap-need) * sz=newCap * sz:=by rw [← Nat.add_mul];congr 1;omega
 have hs:({ w with drawn:=w.drawn+1 }:World).heap.size=w.heap.size:=rfl
 have e1:=Ev.alloc h0 (.cells (xs++zs++rest).toArray e) (.tail (need * sz) (newCap * sz))
 have hok:=h0.alloc (.cells (xs++zs++rest).toArray e) (.tail (need * sz) (newCap * sz)) ⟨_,e,Xp _ _,by simp only [List.size_toArray,List.length_append] at hlen ⊢;omega⟩
 rw [hs] at e1 hok
 have ev:=e0.trans e1
 refine ⟨?_,hok,ev⟩
 subst hneed
 refine dH (b:=w.heap.size) (o:=0) (xs:=xs++zs) _ hle hlim ⟨0,rfl,by simp,by simp⟩ (fun _=>rfl) (hc.ev ev) (fun k x hk=>?_)
 have hlt:=(List.getElem?_eq_some_iff.1 hk).1
 refine iK ?_
 refine ⟨fun hl=>?_,?_⟩
 ·obtain ⟨y,hy,hlv⟩:=hl
  simp only [List.mem_cons,Prod.mk.injEq] at hy
  rcases hy with ⟨_,rfl⟩ | hy
  ·simp only [AObj.liveAt] at hlv;omega
  ·have:=(h0.obj _ _ hy).lt;simp only [hs] at this;omega
 ·have hb:=Xp { w with drawn:=w.drawn+1 } (.cells (xs++zs++rest).toArray e)
  rw [hs] at hb
  unfold World.cell?
  simp only [w',hb]
  simp only [Option.isSome_none,Bool.false_eq_true,if_false,List.getElem?_toArray]
  rw [List.getElem?_append_left hlt,hk]
theorem NC {P:Program}{σ:Store}{w:World}{sz b o e0 c0 cap:Nat}{es ys:List (List AV)}{xs zs:List Value}(hσ:Zo σ w)(hg:σ.get b=some (.tail e0 c0))
 (hc:YA (live σ) w sz es xs) (hx:∀ k x,xs[k]?=some x→¬ live σ b (o+k)∧w.cell? ⟨b,o+k,none⟩=some x) (hd:YA (live σ) w sz ys zs)
 (he:o+es.length * sz=e0) (hcap:o+cap * sz=c0) (hle:es.length+ys.length≤cap) (hlim:es.length+ys.length≤lim) :
 ∃ w',(storeCells ⟨b,o+es.length * sz,none⟩ zs).run P w=.ok () w' ∧
   V (live ((b,.tail (e0+ys.length * sz) c0)::σ.del b)) w' (.list (.tip b (e0+ys.length * sz) c0) sz (es++ys)) (.slice (some ⟨b,o,none⟩) (es.length+ys.length) cap) ∧
   Zo ((b,.tail (e0+ys.length * sz) c0)::σ.del b) w'∧Ev σ w ((b,.tail (e0+ys.length * sz) c0)::σ.del b) w':=by
 obtain ⟨cur,T,hb,hcs⟩:=hσ.obj b _ (ZW hg)
 have hle':es.length * sz+ys.length * sz≤cap * sz:=by rw [← Nat.add_mul];exact Nat.mul_le_mul_right _ hle
 have hzl:=hd.len
 have hrun:=run_storeCells_cells (P:=P) b e0 zs 0 w (fun j hj=>by
  have:e0+0+j<cur.size:=by omega
  unfold World.cell?;simp only [hb];simp;omega) (fun j hj=>by simp [World.frozen?,hb]) hd.one
 simp only [Nat.add_zero] at hrun
 obtain ⟨k1,k2,k3,k4,k5,k6⟩:=Td b e0 zs w cur T (0,0) hb (by omega)
 have hlv:∀ b' o',live ((b,.tail (e0+ys.length * sz) c0)::σ.del b) b' o'→live σ b' o':=by
  intro b' o' ⟨y,hy,hl⟩
  simp only [List.mem_cons,Prod.mk.injEq] at hy
  rcases hy with ⟨rfl,rfl⟩ | hy
  ·refine ⟨_,ZW hg,?_⟩
   simp only [AObj.liveAt] at hl ⊢
   omega
  ·exact ⟨y,(XQ σ b).1 _ hy,hl⟩
 have out:∀ o',¬ (e0≤o'∧o'<e0+zs.length)→(w.setCells b e0 zs).cell? ⟨b,o',none⟩=w.cell? ⟨b,o',none⟩:=by
  intro o' ho
  exact World.cell?_setCells_out b zs e0 w ⟨b,o',none⟩ (fun _ _=>by simp only;omega)
 have ev:Ev σ w ((b,.tail (e0+ys.length * sz) c0)::σ.del b) (w.setCells b e0 zs) :=
  Ev.turn (b:=b) (fun b' o' _ hl=>hlv b' o' hl) k4 k5 k6 k3 k2 (fun o' hn=>out o' (fun ⟨h1,h2⟩=>hn ⟨_,ZW hg,h1⟩)) ⟨e0,_,ZW hg,Nat.le_refl _⟩ (by rw [WS];exact Nat.le_refl _)
 refine ⟨_,by rw [he];exact hrun,?_,⟨?_,fun b' y hy=>?_⟩,ev⟩
 ·have key:=dH (L:=live ((b,.tail (e0+ys.length * sz) c0)::σ.del b)) (w:=w.setCells b e0 zs) (s:=sz) (es:=es++ys) (xs:=xs++zs) (cap:=cap) (b:=b) (o:=o) (a:=some ⟨b,o,none⟩)
   (.tip b (e0+ys.length * sz) c0) (by simp;exact hle) (by simp;exact hlim) ⟨o,rfl,by simp only [List.length_append,Nat.add_mul];omega,hcap⟩ (fun _=>rfl) ((hc.append hd).ev ev) (fun k x hk=>by
    by_cases hlt:k<xs.length
    ·rw [List.getElem?_append_left hlt] at hk
     obtain ⟨q1,q2⟩:=hx k x hk
     refine ⟨fun hl=>q1 (hlv _ _ hl),?_⟩
     rw [out (o+k) (by rw [hc.len] at hlt;omega)]
     exact q2
    ·rw [List.getElem?_append_right (by omega)] at hk
     have hlt2:=(List.getElem?_eq_some_iff.1 hk).1
     have hkk:o+k=e0+(k-xs.length):=by rw [hc.len] at hlt ⊢;omega
     refine ⟨fun hl=>?_,?_⟩
     ·obtain ⟨y,hy,hl⟩:=hl
      simp only [List.mem_cons,Prod.mk.injEq] at hy
      rcases hy with ⟨_,rfl⟩ | hy
      ·simp only [AObj.liveAt] at hl;omega
      ·exact UC hσ.nodup b y hy
     ·rw [hkk]
      unfold World.cell?
      simp only [k1]
      simp only [Option.isSome_none,Bool.false_eq_true,if_false,List.getElem?_toArray]
      rw [List.getElem?_append_right (by rw [List.length_take];omega)]
      have:(List.take e0 cur.toList).length=e0:=by rw [List.length_take];simp;omega
      rw [this,show e0+(k-xs.length)-e0=k-xs.length from by omega,List.getElem?_append_left hlt2,hk])
  simpa using key
 ·simp only [List.map_cons,List.nodup_cons]
  refine ⟨fun hm=>?_,(XQ σ b).2 hσ.nodup⟩
  simp only [List.mem_map] at hm
  obtain ⟨⟨b',y⟩,hy,rfl⟩:=hm
  exact UC hσ.nodup _ y hy
 ·simp only [List.mem_cons,Prod.mk.injEq] at hy
  rcases hy with ⟨rfl,rfl⟩ | hy
  ·exact ⟨_,T,k1,by simp only [List.size_toArray,List.length_append,List.length_take,List.length_drop,Array.length_toList];omega⟩
  ·have hne:b'≠b:=by rintro rfl;exact UC hσ.nodup _ y hy
   exact (hσ.obj b' y ((XQ σ b).1 _ hy)).keep (k2 b' hne) (fun _ _ hv=>hv.ev ev)
end Go.Vx
end
section
namespace Go.Vx
open Go.RowKit
theorem WN {P:Program}{e by_:Nat}(hb:ZQ P e=some by_)(w:World):(typeInfo e).run P w=.ok ((P.info? e).getD default) w∧((P.info? e).getD default).bytes=by_:=by
 unfold ZQ at hb
 simp only [Option.map_eq_some_iff] at hb
 obtain ⟨i,hi,rfl⟩:=hb
 exact ⟨by simp [typeInfo,hi],by simp [hi]⟩
theorem Xb {P:Program}{sT xT ty e:TypeId}{w:World}{sz:Nat}{base:Option Addr}{len cap n:Nat}{x:Value}{new:List Value}(he:ZA P sT=some e)(hs:Zh P e=some sz)
 (hx:(ZA P xT).isSome=true) (hl:(Builtin.lenOf x).run P w=.ok n w) (hnew:(Builtin.firstCells sz n x).run P w=.ok new.toArray w) (h1:len+n≤cap) :
 (Builtin.append_ #[sT,xT] ty #[.slice base len cap,x]).run P w=(match base with
  | some a=>(storeCells (a.add (len * sz)) new).run P w
  | none=>Result.ok () w).andThen fun _ w'=>.ok (.slice base (len+n) cap) w':=by
 obtain ⟨e',he'⟩:=Option.isSome_iff_exists.1 hx
 have hd:=Xo he'
 unfold Builtin.append_
 simp only [List.getElem?_toArray,List.getElem?_cons_zero,List.getElem?_cons_succ]
 simp only [Sem.run_bind,run_underlying (Xo he),Result.andThen_ok,Z2 hs,run_underlying hd,Sem.run_pure,Bool.false_eq_true,if_false,hl,h1,if_true,Bool.not_false,hnew]
 cases base with
 | none=>rfl
 | some a=>simp only [Sem.run_bind,Sem.run_pure]
theorem V7 {P:Program}{sT xT ty e:TypeId}{w:World}{sz by_:Nat}{z:Value}{base:Option Addr}{len cap n:Nat}{x:Value}{new old:List Value}(he:ZA P sT=some e)(hs:Zh P e=some sz)(hz:Zl P e=some z)(hb:ZQ P e=some by_)
 (hx:(ZA P xT).isSome=true) (hl:(Builtin.lenOf x).run P w=.ok n w) (hnew:∀ w':World,w'.heap=w.heap→(Builtin.firstCells sz n x).run P w'=.ok new.toArray w')
 (hold:∀ w':World,w'.heap=w.heap→(Builtin.firstCells sz len (.slice base len cap)).run P w'=.ok old.toArray w') (h1:¬ len+n≤cap) (h2:len+n≤lim) (h3:by_≤512) :
 ∃ newCap,len+n≤newCap∧(Builtin.append_ #[sT,xT] ty #[.slice base len cap,x]).run P w =
   .ok (.slice (some ⟨w.heap.size,0,none⟩) (len+n) newCap) (World.alloc { w with drawn:=w.drawn+1 } (.cells (old++new++(Builtin.zeroCells z.cells (newCap-(len+n))).toList).toArray e)):=by
 obtain ⟨e',he'⟩:=Option.isSome_iff_exists.1 hx
 have hd:=Xo he'
 have hmax:IntKind.i64.max=9223372036854775807:=rfl
 simp only [lim] at h2
 refine ⟨(Question.appendCap (len+n) cap e).cut (w.tape w.drawn (Question.appendCap (len+n) cap e)),by simp [Question.cut],?_⟩
 generalize hq:(Question.appendCap (len+n) cap e).cut (w.tape w.drawn (Question.appendCap (len+n) cap e))=nc
 have k3:¬ (((len+n:Nat):Int) > IntKind.i64.max∧(False∨by_=0)):=by
  intro ⟨a,_⟩
  rw [hmax] at a
  omega
 have k4:¬ Builtin.nextslicecap (len+n) cap * by_ > 2 ^ 48:=by
  have:=L3 (len+n) cap h1
  have h5:Builtin.nextslicecap (len+n) cap * by_≤(2 * (len+n)+768) * 512:=Nat.mul_le_mul this h3
  omega
 have hch:∀ w':World,w'.drawn=w.drawn→w'.tape=w.tape→(choose (Question.appendCap (len+n) cap e)).run P w'=.ok nc { w' with drawn:=w'.drawn+1 }:=by
  intro w' a b
  rw [run_choose,if_neg (by simp [Question.forced]),b,a,hq]
 unfold Builtin.append_
 simp only [List.getElem?_toArray,List.getElem?_cons_zero,List.getElem?_cons_succ]
 simp only [Sem.run_bind,run_underlying (Xo he),Result.andThen_ok,Z2 hs,run_underlying hd,Sem.run_pure,Bool.false_eq_true,if_false,hl,h1,Bool.not_false,(WN hb _).1,(WN hb w).2]
 rw [if_neg k3]
 simp only [Sem.run_bind,(WN hb _).1,(WN hb w).2,Result.andThen_ok]
 rw [if_neg k4]
 simp only [Sem.run_bind,hch w rfl rfl,Result.andThen_ok,(WN hb _).1,run_askRoom,if_true]
 rw [hold { w with drawn:=w.drawn+1 } rfl]
 simp only [Result.andThen_ok]
 rw [hnew { w with drawn:=w.drawn+1 } rfl]
 simp only [Result.andThen_ok,WL hz,newRow,Sem.run_bind,Sem.run_pure,run_newObj]
 congr 2
 show w.heap.push _=w.heap.push _
 congr 2
 apply Array.toList_inj.1
 simp
theorem Wo (z:Array Value)(n:Nat):(Builtin.zeroCells z n).toList.length=n * z.size:=by simp [Builtin.zeroCells]
theorem PI {P:Program}{sT xT ty:TypeId}{s x:AV}{σ:Store}{K:AV→Store→Prop}{w:World}{sv xv:Value}(h:UY P sT xT s x σ K)(hσ:Zo σ w)(hs:V (live σ) w s sv)(hx:V (live σ) w x xv) :
 ∃ y w' av σ',(Builtin.append_ #[sT,xT] ty #[sv,xv]).run P w=.ok y w'∧V (live σ') w' av y∧Zo σ' w'∧Ev σ w σ' w'∧K av σ':=by
 unfold UY at h
 split at h
 case h_2=>exact h.elim
 rename_i e r s1 es r2 s2 ys he
 split at h
 case h_2=>exact h.elim
 rename_i sz z by_ hsz hz hby
 obtain ⟨hxT,hzs,hb512,hlim,hs1,hs2,h⟩:=h
 obtain ⟨a,cap,b,o,xs,rfl,hcap,hl1,hr,ha,hc,hcx⟩:=hs.list_form
 obtain ⟨a2,cap2,b2,o2,zs,rfl,hcap2,hl2,hr2,ha2,hd,hdx⟩:=hx.list_form
 have fit:∀ w':World,w'.heap=w.heap→∀ (b o:Nat) (k:Nat) (x:Value),w.cell? ⟨b,o+k,none⟩=some x→w'.cell? ⟨b,o+k,none⟩=some x:=by
  intro w' hw b o k x hh
  rw [← hh];unfold World.cell?;rw [hw]
 have hlen:∀ w',(Builtin.lenOf (.slice a2 ys.length cap2)).run P w'=.ok ys.length w':=fun _=>rfl
 have hnew:∀ w':World,w'.heap=w.heap→(Builtin.firstCells sz ys.length (.slice a2 ys.length cap2)).run P w'=.ok zs.toArray w':=fun w' hw =>
  XP (L:=live σ) (w:=w') hs2 ha2 ⟨hd.len,hd.sz,fun i e j c y p q t=>(hd.v i e j c y p q t).mono (fun _ _ _ h=>h) (fun b o _ _=>by unfold World.cell?;rw [hw]),hd.one⟩ (fun k x hk=>⟨(hdx k x hk).1,fit w' hw _ _ _ _ (hdx k x hk).2⟩)
 have hold:∀ w':World,w'.heap=w.heap→(Builtin.firstCells sz es.length (.slice a es.length cap)).run P w'=.ok xs.toArray w':=fun w' hw =>
  XP (L:=live σ) (w:=w') hs1 ha ⟨hc.len,hc.sz,fun i e j c y p q t=>(hc.v i e j c y p q t).mono (fun _ _ _ h=>h) (fun b o _ _=>by unfold World.cell?;rw [hw]),hc.one⟩ (fun k x hk=>⟨(hcx k x hk).1,fit w' hw _ _ _ _ (hcx k x hk).2⟩)
 have sure1:YA (live σ) w sz es xs:=by
  rcases hs1 with rfl | rfl
  ·exact hc
  ·have:xs=[]:=by have:=hc.len;simpa using this
   subst this
   exact ⟨by simp,by simp,by simp,by simp⟩
 have sure2:YA (live σ) w sz ys zs:=by
  rcases hs2 with rfl | rfl
  ·exact hd
  ·have:zs=[]:=by have:=hd.len;simpa using this
   subst this
   exact ⟨by simp,by simp,by simp,by simp⟩
 have grow:∀ σd,Sub σd σ→¬ es.length+ys.length≤cap→(∀ b e c,Zx σd b→K (.list (.tip b e c) sz (es++ys)) ((b,.tail e c)::σd)) →
  ∃ y w' av σ',(Builtin.append_ #[sT,xT] ty #[.slice a es.length cap,.slice a2 ys.length cap2]).run P w=.ok y w'∧V (live σ') w' av y∧Zo σ' w'∧Ev σ w σ' w'∧K av σ':=by
  intro σd hsub hno hk
  obtain ⟨nc,hnc,hrun⟩:=V7 (ty:=ty) (P:=P) (w:=w) he hsz hz hby hxT (hlen w) hnew hold hno hlim hb512
  obtain ⟨q1,q2,q3⟩:=M3 (P:=P) (e:=e) (need:=es.length+ys.length) (newCap:=nc) (rest:=(Builtin.zeroCells z.cells (nc-(es.length+ys.length))).toList) hσ hsub (sure1.append sure2) (by simp) hnc hlim (by rw [Wo,hzs])
  exact ⟨_,_,_,_,hrun,q1,q2,q3,hk _ _ _ ((hσ.sub hsub).fresh (Nat.le_refl _))⟩
 cases r with
 | full =>
   simp only [Pe] at hr
   by_cases hy:ys=[]
   ·subst hy
    have hrun:=Xb (ty:=ty) (P:=P) (w:=w) (base:=a) (cap:=cap) he hsz hxT (hlen w) (hnew w rfl) (by simp;omega)
    have hz0:zs=[]:=by have:=hd.len;simpa using this
    subst hz0
    refine ⟨_,w,_,σ,?_,hs,hσ,Ev.refl _ _,h.1 rfl⟩
    rw [hrun]
    cases a<;>simp [storeCells]
   ·refine grow σ (Sub.refl _) ?_ (h.2 hy)
    have:0<ys.length:=List.length_pos_iff.2 hy
    omega
 | none =>
   obtain ⟨rfl,h⟩:=h
   have hrun:=Xb (ty:=ty) (P:=P) (w:=w) (base:=a) (cap:=cap) he hsz hxT (hlen w) (hnew w rfl) (by simp;omega)
   have hz0:zs=[]:=by have:=hd.len;simpa using this
   subst hz0
   refine ⟨_,w,_,σ,?_,hs,hσ,Ev.refl _ _,h⟩
   rw [hrun]
   cases a<;>simp [storeCells]
 | tip b0 e0 c0 =>
   obtain ⟨hg,rfl,hk⟩:=h
   obtain ⟨o',ha',he0,hc0⟩:=hr
   by_cases hroom:es.length+ys.length≤cap
   ·subst ha'
    have hcx':∀ k x,xs[k]?=some x→¬ live σ b0 (o'+k)∧w.cell? ⟨b0,o'+k,none⟩=some x:=by
     intro k x hk
     by_cases hne:es=[]
     ·subst hne
      have:xs=[]:=by have:=hc.len;simpa using this
      subst this
      simp at hk
     ·have:=ha hne
      injection this with this
      injection this with e1 e2
      subst e1;subst e2
      exact hcx k x hk
    obtain ⟨w',r1,r2,r3,r4⟩:=NC (P:=P) hσ hg hc hcx' sure2 he0 hc0 hroom hlim
    have hrun:=Xb (ty:=ty) (P:=P) (w:=w) (base:=some ⟨b0,o',none⟩) (cap:=cap) he hsz hxT (hlen w) (hnew w rfl) hroom
    refine ⟨_,w',_,_,?_,r2,r3,r4,hk _ _ _ (QL fun x=>UC hσ.nodup b0 x)⟩
    rw [hrun]
    simp only [YY,r1,Result.andThen_ok]
   ·exact grow _ (XQ σ b0) hroom hk
end Go.Vx
end
