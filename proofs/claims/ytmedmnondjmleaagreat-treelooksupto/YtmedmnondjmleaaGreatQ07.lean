/- Part Q07 of the proof of treeLooksProved: the walk of the program on abstract values, and the plain law. -/
import Derived.Test.YtmedmnondjmleaaGreatQ06
set_option linter.unusedVariables false
set_option linter.unusedSimpArgs false
section
namespace Go.Vx
open Go.RowKit
inductive Bef (ops:Array Oper):Nat→Nat→Prop where
 | edge (k i:Nat) (o:Oper) (e:Edge) (ho:ops[i]?=some o) (he:e∈o.after.toList) (hb:Region.binds .any e=true) (hk:e.on=k):Bef ops k i
 | trans (k j i:Nat) (h:Bef ops j i) (h':Bef ops k j):Bef ops k i
def Qi (acc:List Nat)(o:Oper):Nat:=o.after.toList.foldl (fun s e=>if Region.binds .any e then s ||| (2 ^ e.on ||| acc.getD e.on 0) else s) 0
def Mf:List Oper→List Nat→List Nat
 | [],acc=>acc
 | o::r,acc=>Mf r (acc++[Qi acc o])
theorem O0 {ops:Array Oper}{acc:List Nat}{o:Oper}{i k:Nat}(ho:ops[i]?=some o)(hacc:∀ j k,(acc.getD j 0).testBit k=true→Bef ops k j)(h:(Qi acc o).testBit k=true):Bef ops k i:=by
 unfold Qi at h
 have key:∀ (es:List Edge) (s:Nat),(∀ e∈es,e∈o.after.toList)→(∀ k,s.testBit k=true→Bef ops k i) →
  ∀ k,(es.foldl (fun s e=>if Region.binds .any e then s ||| (2 ^ e.on ||| acc.getD e.on 0) else s) s).testBit k=true→Bef ops k i:=by
  intro es
  induction es with
  | nil=>intro s _ hs k hk;exact hs k hk
  | cons e r ih =>
    intro s hm hs k hk
    refine ih _ (fun e he=>hm e (List.mem_cons_of_mem _ he)) (fun k hk=>?_) k hk
    dsimp only at hk
    split at hk
    ·rename_i hb
     rw [Nat.testBit_or,Nat.testBit_or] at hk
     simp only [Bool.or_eq_true] at hk
     have hed:Bef ops e.on i:=.edge _ _ o e ho (hm e List.mem_cons_self) hb rfl
     rcases hk with hk | hk | hk
     ·exact hs k hk
     ·rw [Nat.testBit_two_pow] at hk
      simp only [decide_eq_true_eq] at hk
      subst hk
      exact hed
     ·exact .trans _ _ _ hed (hacc _ _ hk)
    ·exact hs k hk
 exact key _ 0 (fun e he=>he) (by simp) k h
theorem Uu {ops:Array Oper}:∀ (l:List Oper) (acc:List Nat),(∀ j,l[j]?=ops[acc.length+j]?)→(∀ j k,(acc.getD j 0).testBit k=true→Bef ops k j)→∀ j k,((Mf l acc).getD j 0).testBit k=true→Bef ops k j:=by
 intro l
 induction l with
 | nil=>intro acc _ h;exact h
 | cons o r ih =>
   intro acc hl h
   refine ih (acc++[Qi acc o]) (fun j=>?_) (fun j k hk=>?_)
   ·have:=hl (j+1)
    simp only [List.getElem?_cons_succ] at this
    rw [this,List.length_append]
    congr 1
    simp;omega
   ·by_cases hj:j<acc.length
    ·refine h j k ?_
     simpa [List.getD_eq_getElem?_getD,List.getElem?_append_left hj] using hk
    ·by_cases he:j=acc.length
     ·subst he
      refine O0 (o:=o) (acc:=acc) ?_ h ?_
      ·have:=hl 0;simpa using this.symm
      ·simpa [List.getD_eq_getElem?_getD] using hk
     ·have:(acc++[Qi acc o])[j]?=none:=List.getElem?_eq_none (by simp;omega)
      simp [List.getD_eq_getElem?_getD,this] at hk
def YO (ops:Array Oper)(o:Oper):List Nat :=
 (o.op.operands.toList.filterMap fun | .tmp t=>some t | _=>none)++(match o.guard with | some (j,_)=>((ops[j]?).bind (·.dst)).toList | none=>[])++o.dst.toList
def EJ (ops:Array Oper)(ms:List Nat)(o:Oper)(i:Nat)(p:Oper)(k:Nat):Bool :=
 k == i || match p.dst with
   | none=>true
   | some t=>!(YO ops o).contains t || (if k<i then (ms.getD i 0).testBit k else (ms.getD k 0).testBit i)
def T0 (ops:Array Oper)(m:Nat):Bool :=
 let l:=ops.toList
 let ms:=Mf l []
 (l.zipIdx.all fun p=>p.1.after.toList.all fun e=>!Region.binds .any e || decide (e.on<p.2)) &&
 ((l.take m).zipIdx.all fun p=>(l.take m).zipIdx.all fun q=>EJ ops ms p.1 p.2 q.1 q.2) &&
 (l.zipIdx.all fun p=>decide (p.2<m) || (List.range p.2).all fun j=>(ms.getD p.2 0).testBit j)&&decide (m≤l.length)
structure W4 (ops:Array Oper) (m:Nat):Prop where
 down:∀ (i:Nat) (o:Oper) (e:Edge),ops[i]?=some o→e∈o.after.toList→Region.binds .any e=true→e.on<i
 clash:∀ (i k:Nat) (o p:Oper) (t:Nat),i<m→k<m→k≠i→ops[i]?=some o→ops[k]?=some p→p.dst=some t→t∈YO ops o→(k<i→Bef ops k i)∧(i<k→Bef ops i k)
 tail:∀ (i j:Nat),m≤i→i<ops.size→j<i→Bef ops j i
 le:m≤ops.size
theorem VC {ops:Array Oper}{m:Nat}(h:T0 ops m=true):W4 ops m:=by
 unfold T0 at h
 simp only [Bool.and_eq_true,decide_eq_true_eq] at h
 obtain ⟨⟨⟨h1,h2⟩,h3⟩,h4⟩:=h
 have hms:=Uu (ops:=ops) ops.toList [] (fun j=>by simp) (fun j k hk=>by simp at hk)
 have get:∀ (i:Nat) (o:Oper),ops[i]?=some o→(o,i)∈ops.toList.zipIdx:=fun i o ho=>by
  rw [List.mem_zipIdx_iff_getElem?];simpa using ho
 have gett:∀ (i:Nat) (o:Oper),i<m→ops[i]?=some o→(o,i)∈(ops.toList.take m).zipIdx:=fun i o hi ho=>by
  rw [List.mem_zipIdx_iff_getElem?,List.getElem?_take_of_lt hi];simpa using ho
 refine ⟨fun i o e ho he hb=>?_,fun i k o p t hi hk hne ho hp hd ht=>?_,fun i j hi hs hj=>?_,by simpa using h4⟩
 ·have:=List.all_eq_true.1 (List.all_eq_true.1 h1 _ (get i o ho)) e he
  simpa [hb] using this
 ·have:=List.all_eq_true.1 (List.all_eq_true.1 h2 _ (gett i o hi ho)) _ (gett k p hk hp)
  simp only [EJ,hd,Bool.or_eq_true,beq_iff_eq,Bool.not_eq_true'] at this
  have hc:(YO ops o).contains t=true:=by simpa using ht
  rw [hc] at this
  simp only [hne,false_or,Bool.true_eq_false] at this
  constructor
  ·intro hlt;rw [if_pos hlt] at this;exact hms _ _ this
  ·intro hlt;rw [if_neg (by omega)] at this;exact hms _ _ this
 ·have ho:ops[i]?=some ops[i]:=Array.getElem?_eq_getElem hs
  have:=List.all_eq_true.1 h3 _ (get i _ ho)
  simp only [Bool.or_eq_true,decide_eq_true_eq] at this
  rcases this with this | this
  ·omega
  ·exact hms _ _ (List.all_eq_true.1 this j (by simpa using hj))
def ZG (D:Nat→Bool):List (Oper×AV)→Nat→Fr→Fr
 | [],_,fr=>fr
 | (o,v)::r,i,fr=>ZG D r (i+1) (if D i then fr.putO o.dst v else fr)
theorem Xm (D:Nat→Bool):∀ (a b:List (Oper×AV)) (s:Nat) (fr:Fr),ZG D (a++b) s fr=ZG D b (s+a.length) (ZG D a s fr):=by
 intro a
 induction a with
 | nil=>intro b s fr;simp [ZG]
 | cons p r ih=>intro b s fr;obtain ⟨o,v⟩:=p;simp only [List.cons_append,ZG,ih,List.length_cons];congr 1;omega
theorem Va (fr:Fr)(d:Option Nat)(v:AV)(t:Nat):(fr.putO d v) t=if d=some t then v else fr t:=by
 cases d with
 | none=>simp [Fr.putO]
 | some k =>
   simp only [Fr.putO,Fr.put,Option.some.injEq]
   by_cases h:t=k
   ·subst h;simp
   ·rw [if_neg h,if_neg (Ne.symm h)]
theorem Yb {D D':Nat→Bool}{t:Nat}:∀ (l:List (Oper×AV)) (s:Nat) (fr fr':Fr),fr t=fr' t→(∀ (k:Nat) (p:Oper×AV),l[k]?=some p→D (s+k)=D' (s+k)∨p.1.dst≠some t)→ZG D l s fr t=ZG D' l s fr' t:=by
 intro l
 induction l with
 | nil=>intro s fr fr' h _;exact h
 | cons p r ih =>
   intro s fr fr' h hk
   obtain ⟨o,v⟩:=p
   simp only [ZG]
   refine ih (s+1) _ _ ?_ (fun k q hq=>by have:=hk (k+1) q (by simpa using hq);rw [show s+1+k=s+(k+1) from by omega];exact this)
   rcases hk 0 (o,v) rfl with e | e
   ·simp only [Nat.add_zero] at e
    rw [e]
    cases D' s
    ·simpa using h
    ·simp only [if_true,Va,h]
   ·have q:∀ (c:Bool) (f:Fr),(if c then f.putO o.dst v else f) t=f t:=by
     intro c f;cases c
     ·rfl
     ·simp only [if_true,Va];rw [if_neg e]
    rw [q,q,h]
theorem Xz:∀ (l:List (Oper×AV)) (s:Nat) (fr:Fr),ZG (fun _=>false) l s fr=fr:=by
 intro l
 induction l with
 | nil=>intro s fr;rfl
 | cons p r ih=>intro s fr;obtain ⟨o,v⟩:=p;simp only [ZG];exact ih _ _
def gw (ops:Array Oper)(g:Option (Nat×Bool))(fr:Fr):Option Bool :=
 match g with
 | none=>some true
 | some (j,want)=>match (ops[j]?).bind (·.dst) with
   | some d=>match fr d with
     | .val (.bool x)=>some (x == want)
     | .val (.tuple ⟨[]⟩)=>some false
     | _=>none
   | none=>none
theorem Xy {P:Program}{ops:Array Oper}{o:Oper}{fr:Fr}{b:Bool}{n:Nat}{L:Nat→Nat→Prop}{w:World}{a:Act}(h:gw ops o.guard fr=some b)(hs:a.tmps.size=n)
 (hv:∀ j want d,o.guard=some (j,want)→(ops[j]?).bind (·.dst)=some d→d<n∧V L w (fr d) (a.tmps.getD d undef)):Region.wanted o (yielded ops a.tmps)=b:=by
 unfold gw at h
 unfold Region.wanted
 split at h
 ·rename_i hg;rw [hg];injection h
 ·rename_i j want hg
  rw [hg]
  split at h
  ·rename_i d hd
   obtain ⟨hdn,hvd⟩:=hv j want d hg hd
   have hsz:d<a.tmps.size:=by rw [hs];exact hdn
   have hy:yielded ops a.tmps j=match a.tmps.getD d undef with | .bool b=>some b | _=>none:=by
    unfold yielded
    rw [hd]
    simp only [Option.bind_some,Array.getD_eq_getD_getElem?,Array.getElem?_eq_getElem hsz,Option.getD_some]
    cases a.tmps[d]<;>rfl
   simp only [hy]
   split at h
   ·rename_i x hx
    rw [hx] at hvd
    generalize hq:a.tmps.getD d undef=v at hvd
    cases hvd
    injection h with h
   ·rename_i hx
    rw [hx] at hvd
    generalize hq:a.tmps.getD d undef=v at hvd
    cases hvd
    injection h with h
   ·cases h
  ·cases h
inductive HTr (P:Program) (ops:Array Oper) (σ:Store):List Oper→Fr→List AV→Fr→Prop where
 | nil (fr:Fr):HTr P ops σ [] fr [] fr
 | exec (o:Oper) (r:List Oper) (fr fr':Fr) (v:AV) (vs:List AV) (hg:gw ops o.guard fr=some true) (h:∀ σ',(S7 o.op=true∨XS σ σ')→AOp P o fr.ev σ' (Z8 v σ')) (t:HTr P ops σ r (fr.putO o.dst v) vs fr'):HTr P ops σ (o::r) fr (v::vs) fr'
 | skip (o:Oper) (r:List Oper) (fr fr':Fr) (vs:List AV) (hg:gw ops o.guard fr=some false) (t:HTr P ops σ r (fr.putO o.dst (.val undef)) vs fr'):HTr P ops σ (o::r) fr (.val undef::vs) fr'
theorem HTr.len {P:Program}{ops:Array Oper}{σ:Store}{l:List Oper}{fr fr':Fr}{vs:List AV}(h:HTr P ops σ l fr vs fr'):vs.length=l.length:=by
 induction h with
 | nil=>rfl
 | exec _ _ _ _ _ _ _ _ _ ih=>simp [ih]
 | skip _ _ _ _ _ _ _ ih=>simp [ih]
theorem HTr.all {P:Program}{ops:Array Oper}{σ:Store}{l:List Oper}{fr fr':Fr}{vs:List AV}(h:HTr P ops σ l fr vs fr'):∀ s,ZG (fun _=>true) (l.zip vs) s fr=fr':=by
 induction h with
 | nil=>intro s;rfl
 | exec _ _ _ _ _ _ _ _ _ ih=>intro s;simp only [List.zip_cons_cons,ZG,if_true];exact ih _
 | skip _ _ _ _ _ _ _ ih=>intro s;simp only [List.zip_cons_cons,ZG,if_true];exact ih _
theorem HTr.at_ {P:Program}{ops:Array Oper}{σ:Store}{l:List Oper}{fr fr':Fr}{vs:List AV}(h:HTr P ops σ l fr vs fr'):∀ (i:Nat) (o:Oper) (v:AV),l[i]?=some o→vs[i]?=some v→∀ s,
 let fi:=ZG (fun _=>true) ((l.zip vs).take i) s fr
 (gw ops o.guard fi=some true∧∀ σ',(S7 o.op=true∨XS σ σ')→AOp P o fi.ev σ' (Z8 v σ'))∨(gw ops o.guard fi=some false∧v=.val undef):=by
 induction h with
 | nil=>intro i o v ho;simp at ho
 | exec o r fr fr' v vs hg h t ih =>
   intro i p u hp hu s
   cases i with
   | zero=>simp at hp hu;subst hp;subst hu;exact .inl ⟨hg,h⟩
   | succ i=>simp only [List.zip_cons_cons,List.take_succ_cons,ZG,if_true];exact ih i p u (by simpa using hp) (by simpa using hu) _
 | skip o r fr fr' vs hg t ih =>
   intro i p u hp hu s
   cases i with
   | zero=>simp at hp hu;subst hp;subst hu;exact .inr ⟨hg,rfl⟩
   | succ i=>simp only [List.zip_cons_cons,List.take_succ_cons,ZG,if_true];exact ih i p u (by simpa using hp) (by simpa using hu) _
end Go.Vx
end
section
namespace Go.Vx
open Go.RowKit
theorem Ou {α:Type}{p q:α→Bool}(h:∀ x,q x=true→p x=true):∀ l:List α,l.countP q≤l.countP p:=by
 intro l
 induction l with
 | nil=>exact Nat.le_refl _
 | cons x r ih =>
   simp only [List.countP_cons]
   by_cases hq:q x=true
   ·rw [if_pos hq,if_pos (h x hq)];omega
   ·rw [if_neg hq];omega
theorem Ot {α:Type}{p q:α→Bool}(h:∀ x,q x=true→p x=true){i:α}(hp:p i=true)(hq:q i=false):∀ l:List α,i∈l→l.countP q<l.countP p:=by
 intro l
 induction l with
 | nil=>intro h;exact absurd h (by simp)
 | cons x r ih =>
   intro hi
   simp only [List.countP_cons]
   rcases List.mem_cons.1 hi with e | e
   ·subst e
    rw [if_pos hp,hq,if_neg (by simp)]
    have:=Ou h r
    omega
   ·have:=ih e
    by_cases hx:q x=true
    ·rw [if_pos hx,if_pos (h x hx)];omega
    ·rw [if_neg hx];omega
theorem YW {ops:Array Oper}{ls:Array Bool}{i:Nat}:i∈Region.ready .any ops ls↔i<ops.size∧ls.getD i true=false∧∃ o,ops[i]?=some o∧∀ e∈o.after.toList,Region.binds .any e=true→ls.getD e.on false=true:=by
 unfold Region.ready
 simp only [List.mem_filter,List.mem_range,Bool.and_eq_true,Bool.not_eq_true']
 constructor
 ·rintro ⟨h1,h2,h3⟩
  refine ⟨h1,h2,ops[i],Array.getElem?_eq_getElem h1,fun e he hb=>?_⟩
  rw [Array.getElem?_eq_getElem h1] at h3
  simp only [Option.map_some,Option.getD_some,Array.all_eq_true'] at h3
  have:=h3 e (by simpa using he)
  simpa [hb] using this
 ·rintro ⟨h1,h2,o,ho,h3⟩
  refine ⟨h1,h2,?_⟩
  rw [ho]
  simp only [Option.map_some,Option.getD_some,Array.all_eq_true']
  intro e he
  by_cases hb:Region.binds .any e=true
  ·simp [hb,h3 e (by simpa using he) hb]
  ·simp [hb]
structure Lst (ops:Array Oper) (ls:Array Bool):Prop where
 size:ls.size=ops.size
 down:∀ (i:Nat) (o:Oper) (e:Edge),ops[i]?=some o→ls.getD i false=true→e∈o.after.toList→Region.binds .any e=true→ls.getD e.on false=true
theorem Lst.bef {ops:Array Oper}{ls:Array Bool}(h:Lst ops ls){k i:Nat}(hb:Bef ops k i):ls.getD i false=true→ls.getD k false=true:=by
 induction hb with
 | edge k i o e ho he hb hk=>intro hi;rw [← hk];exact h.down i o e ho hi he hb
 | trans k j i _ _ ih1 ih2=>intro hi;exact ih2 (ih1 hi)
theorem Lst.bef_ready {ops:Array Oper}{ls:Array Bool}(h:Lst ops ls){k i:Nat}(hb:Bef ops k i)(hi:i∈Region.ready .any ops ls):ls.getD k false=true:=by
 have hr:=(YW.1 hi).2.2
 induction hb with
 | edge k i o e ho he hb hk =>
   obtain ⟨o',ho',hr⟩:=hr
   rw [ho] at ho';injection ho' with ho';subst ho'
   rw [← hk];exact hr e he hb
 | trans k j i h1 h2 ih1 ih2=>exact h.bef h2 (ih1 hi hr)
theorem ZZ {ls:Array Bool}{i:Nat}(hi:i<ls.size)(j:Nat)(b:Bool):(ls.setIfInBounds i true).getD j b=if j=i then true else ls.getD j b:=by
 simp only [Array.getD_eq_getD_getElem?,Array.getElem?_setIfInBounds]
 by_cases e:i=j
 ·subst e;simp [hi]
 ·rw [if_neg e,if_neg (Ne.symm e)]
theorem Lst.set {ops:Array Oper}{ls:Array Bool}(h:Lst ops ls){i:Nat}(hi:i∈Region.ready .any ops ls):Lst ops (ls.setIfInBounds i true):=by
 obtain ⟨h1,h2,o,ho,h3⟩:=YW.1 hi
 have hs:i<ls.size:=by rw [h.size];exact h1
 refine ⟨by simp [h.size],fun j p e hp hj he hb=>?_⟩
 rw [ZZ hs] at hj ⊢
 by_cases e1:e.on=i
 ·rw [if_pos e1]
 ·rw [if_neg e1]
  by_cases e2:j=i
  ·subst e2
   rw [ho] at hp;injection hp with hp;subst hp
   exact h3 e he hb
  ·rw [if_neg e2] at hj
   exact h.down j p e hp hj he hb
theorem X5 {ls:Array Bool}{i:Nat}(hi:i<ls.size):ls.getD i true=ls.getD i false:=by
 simp [Array.getD_eq_getD_getElem?,hi]
theorem Wi {ops:Array Oper}{m:Nat}{ls:Array Bool}(hd:W4 ops m)(h:Lst ops ls){j:Nat}(hj:j<ops.size)(hl:ls.getD j false=false):Region.ready .any ops ls≠[]:=by
 have key:∀ n j,j≤n→j<ops.size→ls.getD j false=false→∃ i,i∈Region.ready .any ops ls:=by
  intro n
  induction n with
  | zero =>
    intro j hj hs hl
    refine ⟨j,YW.2 ⟨hs,by rw [X5 (by rw [h.size];exact hs)];exact hl,ops[j],Array.getElem?_eq_getElem hs,fun e he hb=>?_⟩⟩
    have:=hd.down j _ e (Array.getElem?_eq_getElem hs) he hb
    omega
  | succ n ih =>
    intro j hj hs hl
    by_cases ha:∀ e∈ops[j].after.toList,Region.binds .any e=true→ls.getD e.on false=true
    ·exact ⟨j,YW.2 ⟨hs,by rw [X5 (by rw [h.size];exact hs)];exact hl,ops[j],Array.getElem?_eq_getElem hs,ha⟩⟩
    ·have:∃ e,e∈ops[j].after.toList∧Region.binds .any e=true∧ls.getD e.on false=false:=by
      apply Classical.byContradiction
      intro hc
      apply ha
      intro e he hb
      cases hv:ls.getD e.on false with
      | true=>rfl
      | false=>exact absurd ⟨e,he,hb,hv⟩ hc
     obtain ⟨e,he,hb,hv⟩:=this
     have:=hd.down j _ e (Array.getElem?_eq_getElem hs) he hb
     exact ih e.on (by omega) (by omega) hv
 obtain ⟨i,hi⟩:=key j j (Nat.le_refl _) hj hl
 intro e
 rw [e] at hi
 exact absurd hi (by simp)
theorem Tg {P:Program}{ops:Array Oper}{m:Nat}(hd:W4 ops m){Q:Exit→Act→World→Prop}:∀ (fuel k:Nat) (ls:Array Bool) (a:Act) (w:World),m≤k→Lst ops ls→(∀ j,j<ops.size→(ls.getD j false=true↔j<k))→ops.size≤k+fuel →
 wpList P ops Q (ops.toList.drop k) a w→wpAny P .any ops Q fuel ls a w:=by
 intro fuel
 induction fuel with
 | zero =>
   intro k ls a w hm hl hk hf h
   rw [List.drop_eq_nil_of_le (by simpa using hf)] at h
   refine ⟨?_,h⟩
   apply List.eq_nil_iff_forall_not_mem.2
   intro i hi
   obtain ⟨h1,h2,_⟩:=YW.1 hi
   rw [X5 (by rw [hl.size];exact h1),(hk i h1).2 (by omega)] at h2
   exact absurd h2 (by simp)
 | succ fuel ih =>
   intro k ls a w hm hl hk hf h
   refine ⟨fun hr=>?_,fun i hi=>?_⟩
   ·have:ops.size≤k:=by
     apply Nat.le_of_not_lt
     intro hlt
     refine Wi hd hl hlt ?_ hr
     cases hv:ls.getD k false with
     | false=>rfl
     | true=>exact absurd ((hk k hlt).1 hv) (by omega)
    rw [List.drop_eq_nil_of_le (by simpa using this)] at h
    exact h
   ·obtain ⟨h1,h2,o,ho,h3⟩:=YW.1 hi
    have hki:k≤i:=by
     apply Nat.le_of_not_lt
     intro hlt
     rw [X5 (by rw [hl.size];exact h1),(hk i h1).2 hlt] at h2
     exact absurd h2 (by simp)
    have hik:i=k:=by
     apply Nat.le_antisymm _ hki
     apply Nat.le_of_not_lt
     intro hlt
     have:=hl.bef_ready (hd.tail i k (by omega) h1 hlt) hi
     exact absurd ((hk k (by omega)).1 this) (by omega)
    subst hik
    have hdr:ops.toList.drop i=o::ops.toList.drop (i+1):=by
     rw [List.drop_eq_getElem_cons (by simpa using h1)]
     rw [Array.getElem?_eq_getElem h1] at ho
     injection ho with ho
     rw [← ho];rfl
    rw [hdr] at h
    have hs:i<ls.size:=by rw [hl.size];exact h1
    have nx:∀ a w,wpList P ops Q (ops.toList.drop (i+1)) a w→wpAny P .any ops Q fuel (ls.setIfInBounds i true) a w:=fun a w hh =>
     ih (i+1) _ a w (by omega) (hl.set hi) (fun j hj=>by
      rw [ZZ hs]
      by_cases e:j=i
      ·subst e;simp
      ·rw [if_neg e,hk j hj];omega) (by omega) hh
    unfold wpOp
    simp only [ho]
    simp only [wpList] at h
    split
    ·rename_i hw
     rw [if_pos hw] at h
     exact h.imp (Oper.wp_mono nx) id
    ·rename_i hw
     rw [if_neg hw] at h
     exact nx _ _ h
theorem AOp.congr {P:Program}{o:Oper}{ev ev':Operand→AV}{σ:Store}{K:ZO→Store→Prop}(h:AOp P o ev σ K)(he:∀ x∈o.op.operands.toList,ev x=ev' x):AOp P o ev' σ K :=
 fun a w hs hv next Q hn hp=>h a w hs (fun x hx=>by rw [he x hx];exact hv x hx) next Q hn hp
theorem XN {ops:Array Oper}{o:Oper}{fr fr':Fr}(h:∀ t∈YO ops o,fr t=fr' t):gw ops o.guard fr=gw ops o.guard fr':=by
 unfold gw
 cases hg:o.guard with
 | none=>rfl
 | some jw =>
   obtain ⟨j,want⟩:=jw
   simp only
   cases hd:(ops[j]?).bind (·.dst) with
   | none=>rfl
   | some d =>
     simp only
     rw [h d (by simp [YO,hg,hd])]
theorem WY {ops:Array Oper}{o:Oper}{fr fr':Fr}(h:∀ t∈YO ops o,fr t=fr' t):∀ x∈o.op.operands.toList,fr.ev x=fr'.ev x:=by
 intro x hx
 cases x with
 | tmp t =>
   refine h t ?_
   unfold YO
   refine List.mem_append_left _ (List.mem_append_left _ ?_)
   exact List.mem_filterMap.2 ⟨_,hx,rfl⟩
 | _=>rfl
theorem DA {α β:Type}{l:List α}{r:List β}{i:Nat}{a:α}{b:β}(ha:l[i]?=some a)(hb:r[i]?=some b):(l.zip r)[i]?=some (a,b):=by
 rw [List.getElem?_zip_eq_some];exact ⟨ha,hb⟩
theorem Ys {α:Type}{l:List α}{i:Nat}{x:α}(h:l[i]?=some x):l=l.take i++x::l.drop (i+1):=by
 have hi:i<l.length:=by
  apply Nat.lt_of_not_le
  intro hle
  rw [List.getElem?_eq_none hle] at h
  cases h
 have h2:=List.getElem?_eq_getElem hi
 rw [h] at h2
 injection h2 with h2
 have h3:=List.drop_eq_getElem_cons hi
 rw [← h2] at h3
 rw [← h3,List.take_append_drop]
theorem Lt {P:Program}{ops:Array Oper}{m n:Nat}(hd:W4 ops m)(hB:∀ o∈ops.toList,opB n o=true){ds:List Deferred}{σ:Store}{fr0 fr1:Fr}{pv:List AV}
 (hT:HTr P ops σ (ops.toList.take m) fr0 pv fr1) {Q:Exit→Act→World→Prop} {w0:World}
 (hrest:∀ a w,Y4 n ds σ fr1 a w→Ev σ w0 σ w→wpList P ops Q (ops.toList.drop m) a w) :
 ∀ (fuel:Nat) (ls:Array Bool) (a:Act) (w:World),Lst ops ls→(∀ j,m≤j→j<ops.size→ls.getD j false=false)→(List.range m).countP (fun i=>!ls.getD i false)+(ops.size-m)≤fuel →
   Y4 n ds σ (ZG (fun i=>ls.getD i false) ((ops.toList.take m).zip pv) 0 fr0) a w→Ev σ w0 σ w→wpAny P .any ops Q fuel ls a w:=by
 have hdst:∀ (j d:Nat),(ops[j]?).bind (·.dst)=some d→d<n:=YZ (List.all_eq_true.2 hB)
 have hlen:=hT.len
 have full:∀ (fuel:Nat) (ls:Array Bool) (a:Act) (w:World),Lst ops ls→(∀ j,m≤j→j<ops.size→ls.getD j false=false)→(∀ j,j<m→ls.getD j false=true)→ops.size≤m+fuel →
  Y4 n ds σ (ZG (fun i=>ls.getD i false) ((ops.toList.take m).zip pv) 0 fr0) a w→Ev σ w0 σ w→wpAny P .any ops Q fuel ls a w:=by
  intro fuel ls a w hl hge hlt hf hc he
  have e1:ZG (fun i=>ls.getD i false) ((ops.toList.take m).zip pv) 0 fr0=fr1:=by
   rw [← hT.all 0]
   funext t
   refine Yb _ _ _ _ rfl (fun k p hk=>.inl ?_)
   have:k<m:=by
    have:=(List.getElem?_eq_some_iff.1 hk).1
    simp only [List.length_zip,List.length_take] at this
    omega
   refine iK ?_
   exact hlt k this
  rw [e1] at hc
  refine Tg hd fuel m ls a w (Nat.le_refl _) hl (fun j hj=>⟨fun h=>?_,fun h=>hlt j h⟩) hf (hrest a w hc he)
  apply Nat.lt_of_not_le
  intro hle
  rw [hge j hle hj] at h
  cases h
 intro fuel
 induction fuel with
 | zero =>
   intro ls a w hl hge hf hc he
   refine full 0 ls a w hl hge (fun j hj=>?_) (by omega) hc he
   have h0:(List.range m).countP (fun i=>!ls.getD i false)=0:=by omega
   rw [List.countP_eq_zero] at h0
   have:=h0 j (List.mem_range.2 hj)
   simpa using this
 | succ fuel ih =>
   intro ls a w hl hge hf hc he
   by_cases hall:∀ j,j<m→ls.getD j false=true
   ·exact full (fuel+1) ls a w hl hge hall (by omega) hc he
   ·have:∃ j,j<m∧ls.getD j false=false:=by
     apply Classical.byContradiction
     intro hn
     apply hall
     intro j hj
     cases hv:ls.getD j false with
     | true=>rfl
     | false=>exact absurd ⟨j,hj,hv⟩ hn
    obtain ⟨j0,hj0,hl0⟩:=this
    refine ⟨fun hr=>absurd hr (Wi hd hl (Nat.lt_of_lt_of_le hj0 hd.le) hl0),fun i hi=>?_⟩
    obtain ⟨h1,h2,o,ho,h3⟩:=YW.1 hi
    have hs:i<ls.size:=by rw [hl.size];exact h1
    rw [X5 hs] at h2
    have him:i<m:=by
     apply Nat.lt_of_not_le
     intro hle
     have:=hl.bef_ready (hd.tail i j0 hle h1 (by omega)) hi
     rw [hl0] at this
     cases this
    have hoB:opB n o=true:=hB o (by rw [← Array.getElem?_toList] at ho;exact List.mem_of_getElem? ho)
    have hot:(ops.toList.take m)[i]?=some o:=by rw [List.getElem?_take_of_lt him];simpa using ho
    have hiv:i<pv.length:=by rw [hlen];exact (List.getElem?_eq_some_iff.1 hot).1
    have hv:pv[i]?=some pv[i]:=List.getElem?_eq_getElem hiv
    generalize pv[i]=v at hv
    have hz:=DA hot hv
    have hsp:=Ys hz
    have hb:=hT.at_ i o v hot hv 0
    simp only at hb
    generalize hZ:(ops.toList.take m).zip pv=Z at hc hz hsp hb ih
    have hzk:∀ (k:Nat) (p:Oper×AV),Z[k]?=some p→k<m∧ops[k]?=some p.1:=by
     intro k p hk
     rw [← hZ] at hk
     rw [List.getElem?_zip_eq_some] at hk
     have hkm:k<m:=by
      have:=(List.getElem?_eq_some_iff.1 hk.1).1
      simp only [List.length_take] at this
      omega
     rw [List.getElem?_take_of_lt hkm] at hk
     exact ⟨hkm,by simpa using hk.1⟩
    have hlt:(Z.take i).length=i:=by
     rw [List.length_take]
     have:=(List.getElem?_eq_some_iff.1 hz).1
     omega
    have later:∀ (t:Nat),t∈YO ops o→∀ (k:Nat) (p:Oper×AV),i<k→Z[k]?=some p→p.1.dst=some t→ls.getD k false=false:=by
     intro t ht k p hik hk hpt
     obtain ⟨hkm,hpk⟩:=hzk k p hk
     have:=(hd.clash i k o p.1 t him hkm (by omega) ho hpk hpt ht).2 hik
     cases hv:ls.getD k false with
     | false=>rfl
     | true=>rw [hl.bef this hv] at h2;cases h2
    have earlier:∀ (t:Nat),t∈YO ops o→∀ (k:Nat) (p:Oper×AV),k<i→Z[k]?=some p→p.1.dst=some t→ls.getD k false=true:=by
     intro t ht k p hik hk hpt
     obtain ⟨hkm,hpk⟩:=hzk k p hk
     exact hl.bef_ready ((hd.clash i k o p.1 t him hkm (by omega) ho hpk hpt ht).1 hik) hi
    have dropk:∀ (k:Nat) (p:Oper×AV),(Z.drop (i+1))[k]?=some p→Z[i+1+k]?=some p:=by
     intro k p h;rwa [List.getElem?_drop] at h
    have takek:∀ (k:Nat) (p:Oper×AV),(Z.take i)[k]?=some p→k<i∧Z[k]?=some p:=by
     intro k p h
     have hk:k<i:=by have:=(List.getElem?_eq_some_iff.1 h).1;omega
     rw [List.getElem?_take_of_lt hk] at h
     exact ⟨hk,h⟩
    have agree:∀ t∈YO ops o,ZG (fun _=>true) (Z.take i) 0 fr0 t=ZG (fun i=>ls.getD i false) Z 0 fr0 t:=by
     intro t ht
     conv=>rhs;rw [hsp]
     rw [Xm,ZG,hlt,Nat.zero_add,h2]
     simp only [Bool.false_eq_true,if_false]
     have e1:ZG (fun i=>ls.getD i false) (Z.drop (i+1)) (i+1) (ZG (fun i=>ls.getD i false) (Z.take i) 0 fr0) t=ZG (fun _=>false) (Z.drop (i+1)) (i+1) (ZG (fun i=>ls.getD i false) (Z.take i) 0 fr0) t:=by
      refine Yb _ _ _ _ rfl (fun k p hk=>?_)
      by_cases hpt:p.1.dst=some t
      ·exact .inl (later t ht _ p (by omega) (dropk k p hk) hpt)
      ·exact .inr hpt
     rw [e1,Xz]
     refine Yb _ _ _ _ rfl (fun k p hk=>?_)
     obtain ⟨hki,hk⟩:=takek k p hk
     by_cases hpt:p.1.dst=some t
     ·refine .inl ?_
      refine iK ?_
      exact (earlier t ht k p hki hk hpt).symm
     ·exact .inr hpt
    have upd:∀ (u:AV),u=v→(ZG (fun k=>(ls.setIfInBounds i true).getD k false) Z 0 fr0)=(ZG (fun k=>ls.getD k false) Z 0 fr0).putO o.dst u:=by
     intro u hu
     subst hu
     funext t
     rw [Va]
     by_cases hdt:o.dst=some t
     ·rw [if_pos hdt]
      have ht:t∈YO ops o:=by simp [YO,hdt]
      conv=>lhs;rw [hsp]
      rw [Xm,ZG,hlt,Nat.zero_add,ZZ hs]
      simp only [if_true]
      generalize (ZG (fun k=>(ls.setIfInBounds i true).getD k false) (Z.take i) 0 fr0)=X
      have e1:ZG (fun k=>(ls.setIfInBounds i true).getD k false) (Z.drop (i+1)) (i+1) (X.putO o.dst u) t=ZG (fun _=>false) (Z.drop (i+1)) (i+1) (X.putO o.dst u) t:=by
       refine Yb _ _ _ _ rfl (fun k p hk=>?_)
       by_cases hpt:p.1.dst=some t
       ·refine .inl ?_
        rw [ZZ hs,if_neg (by omega)]
        exact later t ht _ p (by omega) (dropk k p hk) hpt
       ·exact .inr hpt
      rw [e1,Xz,Va,if_pos hdt]
     ·rw [if_neg hdt]
      refine Yb _ _ _ _ rfl (fun k p hk=>?_)
      refine iK ?_
      by_cases hki:k=i
      ·subst hki
       rw [hz] at hk
       injection hk with hk
       subst hk
       exact .inr hdt
      ·rw [ZZ hs,if_neg hki];exact .inl rfl
    have hcnt:(List.range m).countP (fun k=>!(ls.setIfInBounds i true).getD k false)+(ops.size-m)≤fuel:=by
     have:=Ot (p:=fun k=>!ls.getD k false) (q:=fun k=>!(ls.setIfInBounds i true).getD k false) (i:=i) (fun x hx=>by
      simp only [ZZ hs,Bool.not_eq_true'] at hx ⊢
      by_cases e:x=i
      ·rw [if_pos e] at hx;cases hx
      ·rwa [if_neg e] at hx) (by simp only [h2];rfl) (by simp only [ZZ hs];simp) (List.range m) (List.mem_range.2 him)
     omega
    have hge2:∀ j,m≤j→j<ops.size→(ls.setIfInBounds i true).getD j false=false:=fun j hj hjs=>by
     rw [ZZ hs,if_neg (by omega)];exact hge j hj hjs
    have nx:∀ (u:AV),u=v→∀ a' w',Y4 n ds σ ((ZG (fun k=>ls.getD k false) Z 0 fr0).putO o.dst u) a' w'→Ev σ w0 σ w'→wpAny P .any ops Q fuel (ls.setIfInBounds i true) a' w':=by
     intro u hu a' w' hc' he'
     refine ih _ a' w' (hl.set hi) hge2 hcnt ?_ he'
     rw [upd u hu]
     exact hc'
    have hdo:=Xk hoB
    unfold wpOp
    simp only [ho]
    rcases hb with ⟨hg,hop⟩ | ⟨hg,hvu⟩
    ·rw [XN agree] at hg
     have hw:=Xy (P:=P) hg hc.fr.size (fun j want d _ hd=>⟨hdst j d hd,hc.fr.slot d (hdst j d hd)⟩)
     rw [if_pos hw]
     refine .inl (((hop σ (.inr (.refl σ))).congr (WY agree)) a w hc.ok (fun x hx=>hc.fr.operand (Wj hoB x hx)) _ Q (fun av σ' u w' hk hu hs' he'=>?_) (fun pv σ' w' hk _ _=>?_))
     ·obtain ⟨hk,rfl⟩:=hk
      injection hk with hk
      refine nx av hk _ _ ⟨?_,(hc.fr.ev he').put hdo hu,hs'⟩ (he.trans he')
      rw [← hc.defers]
      cases o.dst<;>rfl
     ·exact absurd hk.1 (by simp)
    ·rw [XN agree] at hg
     have hw:=Xy (P:=P) hg hc.fr.size (fun j want d _ hd=>⟨hdst j d hd,hc.fr.slot d (hdst j d hd)⟩)
     rw [if_neg (by rw [hw];exact Bool.false_ne_true)]
     refine nx _ hvu.symm _ _ ⟨?_,hc.fr.put hdo (.val undef),hc.ok⟩ he
     rw [← hc.defers]
     cases o.dst<;>rfl
def kPs (k:Fr→Prop)(fr:Fr)(d:Option Nat):AV→Prop:=fun v=>k (fr.putO d v)
def Cv (P:Program)(k:(Fr→Prop))(σ:Store)(o:Oper):Fr→Prop:=fun fr=>ZL P fr.ev σ (kPs k fr o.dst) o.op
def JM (k:(Fr→Prop))(d:Option Nat):Fr→Prop:=fun fr=>k (fr.putO d (.val undef))
def ahead (P:Program)(ops:Array Oper)(σ:Store)(R:Fr→Prop):List Oper→Fr→Prop
 | [],fr=>R fr
 | o::r,fr=>XJ ops o.guard fr (Cv P (ahead P ops σ R r) σ o) (JM (ahead P ops σ R r) o.dst)
theorem Mb {fr:Fr}{d:Nat}{v:AV}(h:fr d=v):fr.put d v=fr:=by
 funext i;simp only [Fr.put];by_cases e:i=d
 ·rw [if_pos e,e,h]
 ·rw [if_neg e]
theorem Oy {ops:Array Oper}{g:Option (Nat×Bool)}{fr:Fr}{A B:Fr→Prop}(h:XJ ops g fr A B):(gw ops g fr=some true∧A fr)∨(gw ops g fr=some false∧B fr):=by
 unfold XJ at h
 unfold gw
 split at h
 ·exact .inl ⟨rfl,h⟩
 ·rename_i j want
  split at h
  ·rename_i d hd
   try simp only [hd]
   split at h
   ·rename_i x hx
    simp only [hx]
    by_cases e:x=want
    ·subst e;have:=h.1 rfl;rw [Mb hx] at this;exact .inl ⟨by simp,this⟩
    ·have e2:x=!want:=by cases x<;>cases want<;>simp_all
     subst e2
     have:=h.2 rfl
     rw [Mb hx] at this
     refine .inr ⟨?_,this⟩
     cases want<;>rfl
   ·rename_i hx
    simp only [hx]
    exact .inr ⟨trivial,h⟩
   ·exact eY
  ·exact eY
theorem UI {P:Program}{ops:Array Oper}{σ:Store}{R:Fr→Prop}:∀ (l:List Oper) (fr:Fr),ahead P ops σ R l fr→∃ pv fr',HTr P ops σ l fr pv fr'∧R fr':=by
 intro l
 induction l with
 | nil=>intro fr h;exact ⟨[],fr,.nil fr,h⟩
 | cons o r ih =>
   intro fr h
   rcases Oy h with ⟨hg,h⟩ | ⟨hg,h⟩
   ·obtain ⟨v,hv,hop⟩:=LT h
    obtain ⟨pv,fr',ht,hr⟩:=ih _ hv
    exact ⟨v::pv,fr',.exec o r fr fr' v pv hg hop ht,hr⟩
   ·obtain ⟨pv,fr',ht,hr⟩:=ih _ h
    exact ⟨_::pv,fr',.skip o r fr fr' pv hg ht,hr⟩
theorem getD_none (n i:Nat):(Array.replicate n false).getD i false=false:=by
 simp only [Array.getD_eq_getD_getElem?,Array.getElem?_replicate]
 by_cases h:i<n<;>simp [h]
theorem bH {P:Program}{n:Nat}{ds:List Deferred}{mu:List Nat}{id:Nat}{ops:Array Oper}{Q:Exit→Fr→Store→Prop}{fr:Fr}{σ:Store}(m:Nat)(hm:P.follows .mixedOrders=true)(hc:T0 ops m=true)(hB:ops.toList.all (opB n)=true)
 (h:ahead P ops σ (fun fr=>Y7 P mu ops (ops.toList.drop m) Q fr σ) (ops.toList.take m) fr):AWp P n ds (.region id ops true) Q fr σ:=by
 intro a w hcf Q' hq
 obtain ⟨pv,fr1,hT,hrest⟩:=UI _ _ h
 have hd:=VC hc
 have hBl:=List.all_eq_true.1 hB
 have hev:=Ev.drew σ w
 refine wp_region_any hm (Lt hd hBl hT (w0:=w) (fun a' w' hc' he'=>W2 (YZ hB) _ (fun o ho=>hBl o (List.mem_of_mem_drop ho)) fr1 σ a' w' hrest hc' (fun e fr' σ' a'' w'' q c v=>hq e fr' σ' a'' w'' q c (he'.trans v))) ops.size _ a _ ?_ ?_ ?_ ?_ hev)
 ·refine ⟨by simp,fun i o e ho hi=>?_⟩
  rw [getD_none] at hi
  cases hi
 ·intro j _ _
  exact getD_none _ _
 ·have h1:(List.range m).countP (fun i=>!(Array.replicate ops.size false).getD i false)≤m:=by
   have:=List.countP_le_length (p:=fun i=>!(Array.replicate ops.size false).getD i false) (l:=List.range m)
   simpa using this
  have:=hd.le
  omega
 ·have e:ZG (fun i=>(Array.replicate ops.size false).getD i false) ((ops.toList.take m).zip pv) 0 fr=fr:=by
   have e1:(fun i=>(Array.replicate ops.size false).getD i false)=fun _=>false:=by
    funext i
    exact getD_none _ _
   rw [e1,Xz]
  rw [e]
  exact ⟨hcf.defers,hcf.fr.ev hev,hcf.ok.drew⟩
end Go.Vx
end
