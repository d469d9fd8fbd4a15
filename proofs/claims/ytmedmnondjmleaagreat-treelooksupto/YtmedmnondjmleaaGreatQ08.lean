/- Part Q08 of the proof of treeLooksProved: the walk of the program on abstract values, and the plain law. -/
import Derived.Test.YtmedmnondjmleaaGreatQ07
set_option linter.unusedVariables false
set_option linter.unusedSimpArgs false
namespace Go.Vx
open Go.RowKit
section
variable {ops:Array Oper} {m:Nat} {ls:Array Bool} {i:Nat} {o:Oper} {Z:List (Oper×AV)} {fr0:Fr}
theorem QA (hd:W4 ops m)(hl:Lst ops ls)(h2:ls.getD i false=false)(him:i<m)(ho:ops[i]?=some o)(hzk:∀ (k:Nat) (p:Oper×AV),Z[k]?=some p→k<m∧ops[k]?=some p.1) :
 ∀ (t:Nat),t∈YO ops o→∀ (k:Nat) (p:Oper×AV),i<k→Z[k]?=some p→p.1.dst=some t→ls.getD k false=false:=by
 intro t ht k p hik hk hpt
 obtain ⟨hkm,hpk⟩:=hzk k p hk
 have:=(hd.clash i k o p.1 t him hkm (by omega) ho hpk hpt ht).2 hik
 cases hv:ls.getD k false with
 | false=>rfl
 | true=>rw [hl.bef this hv] at h2;cases h2
theorem VU (hd:W4 ops m)(hl:Lst ops ls)(hi:i∈Region.ready .any ops ls)(him:i<m)(ho:ops[i]?=some o)(hzk:∀ (k:Nat) (p:Oper×AV),Z[k]?=some p→k<m∧ops[k]?=some p.1)(hiz:i≤Z.length) :
 ∀ t∈YO ops o,ZG (fun _=>true) (Z.take i) 0 fr0 t=ZG (fun i=>ls.getD i false) Z 0 fr0 t:=by
 obtain ⟨h1,h2,_⟩:=YW.1 hi
 have hs:i<ls.size:=by rw [hl.size];exact h1
 rw [X5 hs] at h2
 intro t ht
 have hlt:(Z.take i).length=i:=by rw [List.length_take];omega
 have hsp:Z=Z.take i++Z.drop i:=(List.take_append_drop i Z).symm
 conv=>rhs;rw [hsp]
 rw [Xm,hlt,Nat.zero_add]
 have e1:ZG (fun i=>ls.getD i false) (Z.drop i) i (ZG (fun i=>ls.getD i false) (Z.take i) 0 fr0) t=ZG (fun _=>false) (Z.drop i) i (ZG (fun i=>ls.getD i false) (Z.take i) 0 fr0) t:=by
  refine Yb _ _ _ _ rfl (fun k p hk=>?_)
  rw [List.getElem?_drop] at hk
  by_cases hpt:p.1.dst=some t
  ·refine .inl ?_
   by_cases h0:k=0
   ·subst h0;exact h2
   ·exact QA hd hl h2 him ho hzk t ht _ p (by omega) hk hpt
  ·exact .inr hpt
 rw [e1,Xz]
 refine Yb _ _ _ _ rfl (fun k p hk=>?_)
 have hki:k<i:=by have:=(List.getElem?_eq_some_iff.1 hk).1;omega
 rw [List.getElem?_take_of_lt hki] at hk
 by_cases hpt:p.1.dst=some t
 ·refine .inl ?_
  refine iK ?_
  obtain ⟨hkm,hpk⟩:=hzk k p hk
  exact (hl.bef_ready ((hd.clash i k o p.1 t him hkm (by omega) ho hpk hpt ht).1 hki) hi).symm
 ·exact .inr hpt
theorem TY (hd:W4 ops m)(hl:Lst ops ls)(hi:i∈Region.ready .any ops ls)(him:i<m)(ho:ops[i]?=some o)(hzk:∀ (k:Nat) (p:Oper×AV),Z[k]?=some p→k<m∧ops[k]?=some p.1){u:AV}(hz:Z[i]?=some (o,u)) :
 (ZG (fun k=>(ls.setIfInBounds i true).getD k false) Z 0 fr0)=(ZG (fun k=>ls.getD k false) Z 0 fr0).putO o.dst u:=by
 obtain ⟨h1,h2,_⟩:=YW.1 hi
 have hs:i<ls.size:=by rw [hl.size];exact h1
 rw [X5 hs] at h2
 have hsp:=Ys hz
 have hlt:(Z.take i).length=i:=by
  rw [List.length_take]
  have:=(List.getElem?_eq_some_iff.1 hz).1
  omega
 funext t
 rw [Va]
 by_cases hdt:o.dst=some t
 ·rw [if_pos hdt]
  have ht:t∈YO ops o:=by simp [YO,hdt]
  conv=>lhs;rw [hsp]
  rw [Xm,ZG,hlt,Nat.zero_add,ZZ hs]
  simp only [if_true]
  generalize (ZG (fun k=>(ls.setIfInBounds i true).getD k false) (Z.take i) 0 fr0)=X
  have e1:ZG (fun k=>(ls.setIfInBounds i true).getD k false) (Z.drop (i+1)) (i+1) (X.putO o.dst u) t=ZG (fun _=>false) (Z.drop (i+1)) (i+1) (X.putO o.dst u) t:=by
   refine Yb _ _ _ _ rfl (fun k p hk=>?_)
   rw [List.getElem?_drop] at hk
   by_cases hpt:p.1.dst=some t
   ·refine .inl ?_
    rw [ZZ hs,if_neg (by omega)]
    exact QA hd hl h2 him ho hzk t ht _ p (by omega) hk hpt
   ·exact .inr hpt
  rw [e1,Xz,Va,if_pos hdt]
 ·rw [if_neg hdt]
  refine Yb _ _ _ _ rfl (fun k p hk=>?_)
  refine iK ?_
  by_cases hki:k=i
  ·subst hki
   rw [hz] at hk
   injection hk with hk
   subst hk
   exact .inr hdt
  ·rw [ZZ hs,if_neg hki];exact .inl rfl
end
theorem RG {ls:Array Bool}{i s:Nat}(hs:i<ls.size)(h2:ls.getD i false=false)(him:i<s) :
 (List.range s).countP (fun k=>!(ls.setIfInBounds i true).getD k false)<(List.range s).countP (fun k=>!ls.getD k false) :=
 Ot (p:=fun k=>!ls.getD k false) (q:=fun k=>!(ls.setIfInBounds i true).getD k false) (i:=i) (fun x hx=>by
  simp only [ZZ hs,Bool.not_eq_true'] at hx ⊢
  by_cases e:x=i
  ·rw [if_pos e] at hx;cases hx
  ·rwa [if_neg e] at hx) (by simp only [h2];rfl) (by simp only [ZZ hs];simp) (List.range s) (List.mem_range.2 him)
theorem ZI (a:Act)(d:Option Nat)(v:Value):(a.put d v).defers=a.defers:=by cases d<;>rfl
def bJ (P:Program)(ops:Array Oper)(s:Nat)(Z:List (Oper×AV))(fr0:Fr)(σ':Store):Prop :=
 ∀ (i:Nat) (o:Oper) (v:AV),i<s→Z[i]?=some (o,v)→¬ Bef ops i s→let fi:=ZG (fun _=>true) (Z.take i) 0 fr0
   (gw ops o.guard fi=some true∧AOp P o fi.ev σ' (Z8 v σ'))∨(gw ops o.guard fi=some false∧v=.val undef)
theorem NN {P:Program}{ops:Array Oper}{s n:Nat}(hd:W4 ops (s+1))(hB:∀ o∈ops.toList,opB n o=true){ds:List Deferred}{σ':Store}{fr0 fr1:Fr}{Z:List (Oper×AV)}{e:Oper}(heo:ops[s]?=some e)
 (hzl:Z.length=s) (hzk:∀ (k:Nat) (p:Oper×AV),Z[k]?=some p→k<s∧ops[k]?=some p.1) (hfull:ZG (fun _=>true) Z 0 fr0=fr1) {Q:Exit→Act→World→Prop} {w0:World} {σ:Store} {av:AV} (hH:bJ P ops s Z fr0 σ')
 (hrest:∀ a w,Y4 n ds σ' (fr1.putO e.dst av) a w→Ev σ w0 σ' w→wpList P ops Q (ops.toList.drop (s+1)) a w) :
 ∀ (fuel:Nat) (ls:Array Bool) (a:Act) (w:World),Lst ops ls→(∀ j,s+1≤j→j<ops.size→ls.getD j false=false)→ls.getD s false=true→(List.range s).countP (fun i=>!ls.getD i false)+(ops.size-(s+1))≤fuel →
   Y4 n ds σ' ((ZG (fun i=>ls.getD i false) Z 0 fr0).putO e.dst av) a w→Ev σ w0 σ' w→wpAny P .any ops Q fuel ls a w:=by
 have hdst:∀ (j d:Nat),(ops[j]?).bind (·.dst)=some d→d<n:=YZ (List.all_eq_true.2 hB)
 have hzk':∀ (k:Nat) (p:Oper×AV),Z[k]?=some p→k<s+1∧ops[k]?=some p.1:=fun k p h=>⟨by have:=(hzk k p h).1;omega,(hzk k p h).2⟩
 have full:∀ (fuel:Nat) (ls:Array Bool) (a:Act) (w:World),Lst ops ls→(∀ j,s+1≤j→j<ops.size→ls.getD j false=false)→ls.getD s false=true→(∀ j,j<s→ls.getD j false=true)→ops.size≤s+1+fuel →
  Y4 n ds σ' ((ZG (fun i=>ls.getD i false) Z 0 fr0).putO e.dst av) a w→Ev σ w0 σ' w→wpAny P .any ops Q fuel ls a w:=by
  intro fuel ls a w hl hge hsl hlt hf hc he
  have e1:ZG (fun i=>ls.getD i false) Z 0 fr0=fr1:=by
   rw [← hfull]
   funext t
   refine Yb _ _ _ _ rfl (fun k p hk=>.inl ?_)
   refine iK ?_
   exact hlt k (hzk k p hk).1
  rw [e1] at hc
  refine Tg hd fuel (s+1) ls a w (Nat.le_refl _) hl (fun j hj=>⟨fun h=>?_,fun h=>?_⟩) hf (hrest a w hc he)
  ·apply Nat.lt_of_not_le
   intro hle
   rw [hge j hle hj] at h
   cases h
  ·by_cases e:j=s
   ·rw [e];exact hsl
   ·exact hlt j (by omega)
 intro fuel
 induction fuel with
 | zero =>
   intro ls a w hl hge hsl hf hc he
   refine full 0 ls a w hl hge hsl (fun j hj=>?_) (by have:=hd.le;omega) hc he
   have h0:(List.range s).countP (fun i=>!ls.getD i false)=0:=by omega
   rw [List.countP_eq_zero] at h0
   have:=h0 j (List.mem_range.2 hj)
   simpa using this
 | succ fuel ih =>
   intro ls a w hl hge hsl hf hc he
   by_cases hall:∀ j,j<s→ls.getD j false=true
   ·exact full (fuel+1) ls a w hl hge hsl hall (by have:=hd.le;omega) hc he
   ·have:∃ j,j<s∧ls.getD j false=false:=by
     apply Classical.byContradiction
     intro hn
     apply hall
     intro j hj
     cases hv:ls.getD j false with
     | true=>rfl
     | false=>exact absurd ⟨j,hj,hv⟩ hn
    obtain ⟨j0,hj0,hl0⟩:=this
    have hdle:=hd.le
    refine ⟨fun hr=>absurd hr (Wi hd hl (by omega) hl0),fun i hi=>?_⟩
    obtain ⟨h1,h2,o,ho,h3⟩:=YW.1 hi
    have hs:i<ls.size:=by rw [hl.size];exact h1
    rw [X5 hs] at h2
    have hne:i≠s:=by intro e;rw [e,hsl] at h2;cases h2
    have him:i<s:=by
     apply Nat.lt_of_not_le
     intro hle
     have:=hl.bef_ready (hd.tail i j0 (by omega) h1 (by omega)) hi
     rw [hl0] at this
     cases this
    have hoB:opB n o=true:=hB o (by rw [← Array.getElem?_toList] at ho;exact List.mem_of_getElem? ho)
    have hiz:i<Z.length:=by omega
    have hz:Z[i]?=some Z[i]:=List.getElem?_eq_getElem hiz
    have hoz:=(hzk i _ hz).2
    generalize Z[i]=p at hz hoz
    obtain ⟨o',v⟩:=p
    rw [ho] at hoz
    injection hoz with hoz
    simp only at hoz
    subst hoz
    have hnb:¬ Bef ops i s:=fun hb=>by rw [hl.bef hb hsl] at h2;cases h2
    have hb:=hH i o v him hz hnb
    simp only at hb
    have ag:=VU (fr0:=fr0) hd hl hi (by omega) ho hzk' (by omega:i≤Z.length)
    have hns:∀ t∈YO ops o,e.dst≠some t:=fun t ht hdt=>hnb ((hd.clash i s o e t (by omega) (by omega) (by omega) ho heo hdt ht).2 him)
    have agree:∀ t∈YO ops o,ZG (fun _=>true) (Z.take i) 0 fr0 t=((ZG (fun i=>ls.getD i false) Z 0 fr0).putO e.dst av) t:=by
     intro t ht
     rw [Va,if_neg (hns t ht)]
     exact ag t ht
    have hup:=TY (fr0:=fr0) hd hl hi (by omega) ho hzk' hz
    have hcnt:(List.range s).countP (fun k=>!(ls.setIfInBounds i true).getD k false)+(ops.size-(s+1))≤fuel:=by
     have:=RG (s:=s) hs h2 him
     omega
    have hge2:∀ j,s+1≤j→j<ops.size→(ls.setIfInBounds i true).getD j false=false:=fun j hj hjs=>by
     rw [ZZ hs,if_neg (by omega)];exact hge j hj hjs
    have hsl2:(ls.setIfInBounds i true).getD s false=true:=by rw [ZZ hs,if_neg (by omega)];exact hsl
    have comm:((ZG (fun k=>ls.getD k false) Z 0 fr0).putO e.dst av).putO o.dst v=((ZG (fun k=>(ls.setIfInBounds i true).getD k false) Z 0 fr0)).putO e.dst av:=by
     rw [hup]
     funext t
     simp only [Va]
     by_cases c1:o.dst=some t
     ·have:e.dst≠some t:=hns t (by simp [YO,c1])
      rw [if_pos c1,if_neg this,if_pos c1]
     ·rw [if_neg c1,if_neg c1]
    have nx:∀ a' w',Y4 n ds σ' (((ZG (fun k=>ls.getD k false) Z 0 fr0).putO e.dst av).putO o.dst v) a' w'→Ev σ w0 σ' w'→wpAny P .any ops Q fuel (ls.setIfInBounds i true) a' w':=by
     intro a' w' hc' he'
     refine ih _ a' w' (hl.set hi) hge2 hsl2 hcnt ?_ he'
     rw [← comm]
     exact hc'
    have hdo:=Xk hoB
    unfold wpOp
    simp only [ho]
    rcases hb with ⟨hg,hop⟩ | ⟨hg,hvu⟩
    ·rw [XN agree] at hg
     have hw:=Xy (P:=P) hg hc.fr.size (fun j want d _ hd=>⟨hdst j d hd,hc.fr.slot d (hdst j d hd)⟩)
     rw [if_pos hw]
     refine .inl ((hop.congr (WY agree)) a w hc.ok (fun x hx=>hc.fr.operand (Wj hoB x hx)) _ Q (fun av' σ2 u w' hk hu hs' he'=>?_) (fun pv σ2 w' hk _ _=>?_))
     ·obtain ⟨hk,rfl⟩:=hk
      injection hk with hk
      subst hk
      exact nx _ _ ⟨by rw [ZI];exact hc.defers,(hc.fr.ev he').put hdo hu,hs'⟩ (he.trans he')
     ·exact absurd hk.1 (by simp)
    ·rw [XN agree] at hg
     have hw:=Xy (P:=P) hg hc.fr.size (fun j want d _ hd=>⟨hdst j d hd,hc.fr.slot d (hdst j d hd)⟩)
     rw [if_neg (by rw [hw];exact Bool.false_ne_true)]
     subst hvu
     exact nx _ _ ⟨by rw [ZI];exact hc.defers,hc.fr.put hdo (.val undef),hc.ok⟩ he
end Go.Vx
