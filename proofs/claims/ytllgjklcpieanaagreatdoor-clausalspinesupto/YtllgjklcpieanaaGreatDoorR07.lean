/- A part of the proof of clausalSpinesProved. -/
import Derived.Test.YtllgjklcpieanaaGreatDoorR06
import Derived.Deep.LoopGhost
set_option linter.unusedVariables false
set_option linter.unusedSimpArgs false
section
namespace Go.Vx
open Go.RowKit
section
variable {ops:nN nI} {m:Nat} {ls:nN Bool} {i:Nat} {o:nI} {Z:List (nI×AV)} {fr0:Fr}
theorem QU(hd:Vk ops m)(hl:Lst ops ls)(h2:ls.getD i false=false)(him:i<m)(ho:ops[i]?=some o)(hzk:∀ (k:Nat) (p:nI×AV),Z[k]?=some p->k<m/\ops[k]?=some p.1) :
 ∀ (t:Nat),t∈YF ops o->∀ (k:Nat) (p:nI×AV),i<k->Z[k]?=some p->p.1.dst=some t->ls.getD k false=false:=by
 exact qo
theorem Ud(hd:Vk ops m)(hl:Lst ops ls)(hi:i∈Region.ready .any ops ls)(him:i<m)(ho:ops[i]?=some o)(hzk:∀ (k:Nat) (p:nI×AV),Z[k]?=some p->k<m/\ops[k]?=some p.1)(hiz:i<=Z.length) :
 ∀ t∈YF ops o,ZD (fun _=>true) (Z.take i) 0 fr0 t=ZD (fun i=>ls.getD i false) Z 0 fr0 t:=by
 obtain⟨h1,h2,_⟩:=Yl.1 hi
 refine wh fun hs=>?_
 rw[Xj hs] at h2
 intro t ht
 have hlt:(Z.take i).length=i:=by rw[ip];omega
 have hsp:Z=Z.take i++Z.drop i:=(jl i Z).symm
 conv=>rhs;rw[hsp]
 rw[Xk,hlt,jG]
 have e1:ZD (fun i=>ls.getD i false) (Z.drop i) i (ZD (fun i=>ls.getD i false) (Z.take i) 0 fr0) t=ZD (fun _=>false) (Z.drop i) i (ZD (fun i=>ls.getD i false) (Z.take i) 0 fr0) t:=by
  refine Yh _ _ _ _ rfl (fun k p hk=>?_)
  rw[ku] at hk
  by_cases hpt:p.1.dst=some t
  ·refine .inl ?_
   by_cases h0:k=0
   ·subst h0;exact h2
   ·exact QU hd hl h2 him ho hzk t ht _ p xh hk hpt
  ·exact .inr hpt
 rw[e1,XD]
 refine Yh _ _ _ _ rfl (fun k p hk=>?_)
 have hki:k<i:=by have:=(List.getElem?_eq_some_iff.1 hk).1;omega
 rw[jF hki] at hk
 by_cases hpt:p.1.dst=some t
 ·refine .inl ?_
  simp only[jG]
  obtain⟨hkm,hpk⟩:=hzk k p hk
  exact(hl.bef_ready ((hd.clash i k o p.1 t him hkm xh ho hpk hpt ht).1 hki) hi).symm
 ·exact .inr hpt
theorem Ss(hd:Vk ops m)(hl:Lst ops ls)(hi:i∈Region.ready .any ops ls)(him:i<m)(ho:ops[i]?=some o)(hzk:∀ (k:Nat) (p:nI×AV),Z[k]?=some p->k<m/\ops[k]?=some p.1){u:AV}(hz:Z[i]?=some (o,u)) :
 (ZD (fun k=>(ls.setIfInBounds i true).getD k false) Z 0 fr0)=(ZD (fun k=>ls.getD k false) Z 0 fr0).putO o.dst u:=by
 obtain⟨h1,h2,_⟩:=Yl.1 hi
 refine wh fun hs=>?_
 rw[Xj hs] at h2
 have hsp:=Z6 hz
 have hlt:(Z.take i).length=i:=by
  rw[ip]
  have:=(List.getElem?_eq_some_iff.1 hz).1
  omega
 funext t
 rw[Vo]
 by_cases hdt:o.dst=some t
 ·rw[gZ hdt]
  have ht:t∈YF ops o:=by simp[YF,hdt]
  conv=>lhs;rw[hsp]
  rw[Xk,ZD,hlt,jG,ZM hs]
  simp only[iE]
  generalize(ZD (fun k=>(ls.setIfInBounds i true).getD k false) (Z.take i) 0 fr0)=X
  have e1:ZD (fun k=>(ls.setIfInBounds i true).getD k false) (Z.drop (i+1)) (i+1) (X.putO o.dst u) t=ZD (fun _=>false) (Z.drop (i+1)) (i+1) (X.putO o.dst u) t:=by
   refine Yh _ _ _ _ rfl (fun k p hk=>?_)
   rw[ku] at hk
   by_cases hpt:p.1.dst=some t
   ·refine .inl ?_
    rw[ZM hs,ig xh]
    exact QU hd hl h2 him ho hzk t ht _ p xh hk hpt
   ·exact .inr hpt
  rw[e1,XD,Vo,gZ hdt]
 ·exact qI
end
theorem Td{ls:nN Bool}{i s:Nat}(hs:i<ls.size)(h2:ls.getD i false=false)(him:i<s) :
 (List.range s).countP (fun k=>!(ls.setIfInBounds i true).getD k false)<(List.range s).countP (fun k=>!ls.getD k false) :=
 ON (p:=fun k=>!ls.getD k false) (q:=fun k=>!(ls.setIfInBounds i true).getD k false) (i:=i) (fun x hx=>by
  simp only[ZM hs,lS] at hx ⊢
  by_cases e:x=i
  ·rw[gZ e] at hx;cases hx
  ·rwa [ig e] at hx) (by simp only[h2];rfl) (by simp only[ZM hs];simp) (List.range s) (List.mem_range.2 him)
theorem ZJ(a:Act)(d:nM Nat)(v:nG):(a.put d v).defers=a.defers:=by cases d<;>rfl
def cf(P:nE)(ops:nN nI)(s:Nat)(Z:List (nI×AV))(fr0:Fr)(σ':Store):Prop :=
 ∀ (i:Nat) (o:nI) (v:AV),i<s->Z[i]?=some (o,v)->¬ Bef ops i s->let fi:=ZD (fun _=>true) (Z.take i) 0 fr0
   (gw ops o.guard fi=some true/\AOp P o fi.ev σ' (ZP v σ'))\/(gw ops o.guard fi=some false/\v=.val undef)
theorem Mb{P:nE}{ro:nM Nat}{mm:Nat}{ops:nN nI}{s n:Nat}(hd:Vk ops (s+1))(hB:∀ o∈ops.toList,opB n o=true){ds:List nK}{σ':Store}{fr0 fr1:Fr}{Z:List (nI×AV)}{e:nI}(heo:ops[s]?=some e)
 (hzl:Z.length=s) (hzk:∀ (k:Nat) (p:nI×AV),Z[k]?=some p->k<s/\ops[k]?=some p.1) (hfull:ZD (fun _=>true) Z 0 fr0=fr1) {Q:Exit->Act->nH->Prop} {w0:nH} {σ:Store} {av:AV} (hH:cf P ops s Z fr0 σ')
 (hrest:∀ a w,YL n ds σ' (fr1.putO e.dst av) a w->Ev σ w0 σ' w->wpListIn (fen ro) mm P ops Q (ops.toList.drop (s+1)) a w) :
 ∀ (fuel:Nat) (ls:nN Bool) (a:Act) (w:nH),Lst ops ls->(∀ j,s+1<=j->j<ops.size->ls.getD j false=false)->ls.getD s false=true->(List.range s).countP (fun i=>!ls.getD i false)+(ops.size-(s+1))<=fuel ->
   YL n ds σ' ((ZD (fun i=>ls.getD i false) Z 0 fr0).putO e.dst av) a w->Ev σ w0 σ' w->wpAnyIn (fen ro) mm P .any ops Q fuel ls a w:=by
 refine vC fun hdst=>?_
 have hzk':∀ (k:Nat) (p:nI×AV),Z[k]?=some p->k<s+1/\ops[k]?=some p.1:=fun k p h=>⟨by have:=(hzk k p h).1;omega,(hzk k p h).2⟩
 have full:∀ (fuel:Nat) (ls:nN Bool) (a:Act) (w:nH),Lst ops ls->(∀ j,s+1<=j->j<ops.size->ls.getD j false=false)->ls.getD s false=true->(∀ j,j<s->ls.getD j false=true)->ops.size<=s+1+fuel ->
  YL n ds σ' ((ZD (fun i=>ls.getD i false) Z 0 fr0).putO e.dst av) a w->Ev σ w0 σ' w->wpAnyIn (fen ro) mm P .any ops Q fuel ls a w:=by
  intro fuel ls a w hl hge hsl hlt hf hc he
  have e1:ZD (fun i=>ls.getD i false) Z 0 fr0=fr1:=by
   exact sE
  rw[e1] at hc
  refine W2 hd fuel (s+1) ls a w (kO _) hl (fun j hj=>⟨fun h=>?_,fun h=>?_⟩) hf (hrest a w hc he)
  ·apply kP
   intro hle
   rw[hge j hle hj] at h
   cases h
  ·by_cases e:j=s
   ·rw[e];exact hsl
   ·exact hlt j xh
 intro fuel
 induction fuel with
 | zero =>
   intro ls a w hl hge hsl hf hc he
   refine full 0 ls a w hl hge hsl (fun j hj=>?_) (by have:=hd.le;omega) hc he
   have h0:(List.range s).countP (fun i=>!ls.getD i false)=0:=by omega
   rw[List.countP_eq_zero] at h0
   have:=h0 j (List.mem_range.2 hj)
   simpa using this
 | succ fuel ih =>
   intro ls a w hl hge hsl hf hc he
   by_cases hall:∀ j,j<s->ls.getD j false=true
   ·exact full (fuel+1) ls a w hl hge hsl hall (by have:=hd.le;omega) hc he
   ·have:∃ j,j<s/\ls.getD j false=false:=by
     exact pY
    obtain⟨j0,hj0,hl0⟩:=this
    have hdle:=hd.le
    refine⟨fun hr=>absurd hr (XS hd hl xh hl0),fun i hi=>?_⟩
    obtain⟨h1,h2,o,ho,h3⟩:=Yl.1 hi
    refine wh fun hs=>?_
    rw[Xj hs] at h2
    have hne:i≠s:=by intro e;rw[e,hsl] at h2;cases h2
    have him:i<s:=by
     apply kP
     intro hle
     have:=hl.bef_ready (hd.tail i j0 xh h1 xh) hi
     rw[hl0] at this
     cases this
    have hoB:opB n o=true:=hB o yw
    have hiz:i<Z.length:=by omega
    have hz:Z[i]?=some Z[i]:=iO hiz
    have hoz:=(hzk i _ hz).2
    generalize Z[i]=p at hz hoz
    obtain⟨o',v⟩:=p
    rw[ho] at hoz
    injection hoz with hoz
    simp only at hoz
    subst hoz
    have hnb:¬ Bef ops i s:=fun hb=>by rw[hl.bef hb hsl] at h2;cases h2
    have hb:=hH i o v him hz hnb
    simp only at hb
    have ag:=Ud (fr0:=fr0) hd hl hi xh ho hzk' (by omega:i<=Z.length)
    have hns:∀ t∈YF ops o,e.dst≠some t:=fun t ht hdt=>hnb ((hd.clash i s o e t xh xh xh ho heo hdt ht).2 him)
    have agree:∀ t∈YF ops o,ZD (fun _=>true) (Z.take i) 0 fr0 t=((ZD (fun i=>ls.getD i false) Z 0 fr0).putO e.dst av) t:=by
     intro t ht
     rw[Vo,ig (hns t ht)]
     exact ag t ht
    have hup:=Ss (fr0:=fr0) hd hl hi xh ho hzk' hz
    have hcnt:(List.range s).countP (fun k=>!(ls.setIfInBounds i true).getD k false)+(ops.size-(s+1))<=fuel:=by
     have:=Td (s:=s) hs h2 him
     omega
    have hge2:∀ j,s+1<=j->j<ops.size->(ls.setIfInBounds i true).getD j false=false:=fun j hj hjs=>by
     exact qS
    have hsl2:(ls.setIfInBounds i true).getD s false=true:=by rw[ZM hs,ig xh];exact hsl
    have comm:((ZD (fun k=>ls.getD k false) Z 0 fr0).putO e.dst av).putO o.dst v=((ZD (fun k=>(ls.setIfInBounds i true).getD k false) Z 0 fr0)).putO e.dst av:=by
     rw[hup]
     funext t
     simp only[Vo]
     by_cases c1:o.dst=some t
     ·have:e.dst≠some t:=hns t (by simp[YF,c1])
      rw[gZ c1,ig this,gZ c1]
     ·rw[ig c1,ig c1]
    have nx:∀ a' w',YL n ds σ' (((ZD (fun k=>ls.getD k false) Z 0 fr0).putO e.dst av).putO o.dst v) a' w'->Ev σ w0 σ' w'->wpAnyIn (fen ro) mm P .any ops Q fuel (ls.setIfInBounds i true) a' w':=by
     intro a' w' hc' he'
     refine ih _ a' w' (hl.set hi) hge2 hsl2 hcnt ?_ he'
     rw[<- comm]
     exact hc'
    have hdo:=Xh hoB
    unfold wpOpIn
    simp only[ho]
    exact oJ
open Go.RowKit
def Eb(k:(Exit->Fr->Store->Prop)->Fr->Store->Prop)(Q:Exit->Fr->Store->Prop)(fb:Bool)(fr:Fr)(d:nM Nat)(σ:Store):ZE->Store->Prop
 | .ret av,σ'=>(fb=true\/Xl σ σ')/\k Q (fr.putO d av) σ'
 | .pan _,_=>False
def C2(P:nE)(mu:List Nat)(k:(Exit->Fr->Store->Prop)->Fr->Store->Prop)(Q:Exit->Fr->Store->Prop)(fb:Bool)(σ:Store)(o:nI):Fr->Prop :=
 fun fr=>ZA P (match o.dst with|some d=>mu.contains d|none=>false) fr.ev σ (Eb k Q fb fr o.dst σ) o.op
def cp(k:(Exit->Fr->Store->Prop)->Fr->Store->Prop)(Q:Exit->Fr->Store->Prop)(σ:Store)(d:nM Nat):Fr->Prop:=fun fr=>k Q (fr.putO d (.val undef)) σ
def NC(ops:nN nI)(s:Nat):Bool :=
 (ops.toList.take s).zipIdx.all fun p=>((RI ops.toList []).getD s 0).testBit p.2 || RL p.1.op
theorem H2{ops:nN nI}{s:Nat}(h:NC ops s=true):∀ (i:Nat) (o:nI),i<s->ops[i]?=some o->Bef ops i s\/RL o.op=true:=by
 intro i o hi ho
 have hms:=XX (ops:=ops) ops.toList [] (fun j=>by simp) (fun j k hk=>by simp at hk)
 have:(o,i)∈(ops.toList.take s).zipIdx:=by
  rw[kN,jF hi];simpa using ho
 have:=List.all_eq_true.1 h _ this
 simp only[kH] at this
 exact this.imp (hms _ _) id
theorem OW{P:nE}{ro:nM Nat}{mm:Nat}{mu:List Nat}{ops:nN nI}{s n:Nat}(hd:Vk ops (s+1))(hB:∀ o∈ops.toList,opB n o=true){ds:List nK}{σ:Store}{fr0 fr1:Fr}{pv:List AV}{e:nI}(heo:ops[s]?=some e){fb:Bool}
 (hfb:fb=true->NC ops s=true) (hT:HTr P ops σ (ops.toList.take s) fr0 pv fr1) {Q:Exit->Act->nH->Prop} {R:Exit->Fr->Store->Prop} {w0:nH}
 (hE:(gw ops e.guard fr1=some true/\AOp P e fr1.ev σ (Eb (XU P mu ops (ops.toList.drop (s+1))) R fb fr1 e.dst σ))\/(gw ops e.guard fr1=some false/\XU P mu ops (ops.toList.drop (s+1)) R (fr1.putO e.dst (.val undef)) σ))
 (hq:∀ e fr' σ' a' w',R e fr' σ'->YL n ds σ' fr' a' w'->Ev σ w0 σ' w'->Q e a' w') :
 ∀ (fuel:Nat) (ls:nN Bool) (a:Act) (w:nH),Lst ops ls->(∀ j,s+1<=j->j<ops.size->ls.getD j false=false)->ls.getD s false=false->(List.range s).countP (fun i=>!ls.getD i false)+(ops.size-s)<=fuel ->
   YL n ds σ (ZD (fun i=>ls.getD i false) ((ops.toList.take s).zip pv) 0 fr0) a w->Ev σ w0 σ w->wpAnyIn (fen ro) mm P .any ops Q fuel ls a w:=by
 refine vC fun hdst=>?_
 have hlen:=hT.len
 have hdle:=hd.le
 have hsl:s<ops.size:=by omega
 have hzl:((ops.toList.take s).zip pv).length=s:=by
  rw[mA,hlen,Nat.min_self,ip,lO];omega
 have hzk:∀ (k:Nat) (p:nI×AV),((ops.toList.take s).zip pv)[k]?=some p->k<s/\ops[k]?=some p.1:=by
  intro k p hk
  have hks:k<s:=by have:=(List.getElem?_eq_some_iff.1 hk).1;omega
  rw[mz,jF hks] at hk
  exact⟨hks,by simpa using hk.1⟩
 have hzk':∀ (k:Nat) (p:nI×AV),((ops.toList.take s).zip pv)[k]?=some p->k<s+1/\ops[k]?=some p.1:=fun k p h=>⟨by have:=(hzk k p h).1;omega,(hzk k p h).2⟩
 have hfull:=hT.all 0
 have hat:∀ (i:Nat) (o:nI) (v:AV),((ops.toList.take s).zip pv)[i]?=some (o,v)->let fi:=ZD (fun _=>true) (((ops.toList.take s).zip pv).take i) 0 fr0
  (gw ops o.guard fi=some true/\∀ σ',(RL o.op=true\/Xl σ σ')->AOp P o fi.ev σ' (ZP v σ'))\/(gw ops o.guard fi=some false/\v=.val undef):=by
  intro i o v hz
  rw[mz] at hz
  exact hT.at_ i o v hz.1 hz.2 0
 generalize(ops.toList.take s).zip pv=Z at hzl hzk hzk' hfull hat
 have hheld:∀ σ',(fb=true\/Xl σ σ')->cf P ops s Z fr0 σ':=by
  intro σ' hs i o v hi hz hnb
  refine(hat i o v hz).imp (fun⟨h1,h2⟩=>⟨h1,h2 σ' ?_⟩) id
  rcases hs with hs|hs
  ·rcases H2 (hfb hs) i o hi (hzk i _ hz).2 with h|h
   ·exact absurd h hnb
   ·exact .inl h
  ·exact .inr hs
 intro fuel
 induction fuel with
 | zero =>
   intro ls a w hl hge hns hf hc he
   omega
 | succ fuel ih =>
   intro ls a w hl hge hns hf hc he
   refine⟨fun hr=>absurd hr (XS hd hl hsl hns),fun i hi=>?_⟩
   obtain⟨h1,h2,o,ho,h3⟩:=Yl.1 hi
   refine wh fun hs=>?_
   rw[Xj hs] at h2
   have him:i<s+1:=by
    apply kP
    intro hle
    have:=hl.bef_ready (hd.tail i s xh h1 xh) hi
    rw[hns] at this
    cases this
   have hoB:opB n o=true:=hB o yw
   have hdo:=Xh hoB
   have agree:=Ud (fr0:=fr0) hd hl hi him ho hzk' (by omega:i<=Z.length)
   by_cases hie:i=s
   ·subst hie
    rw[heo] at ho
    injection ho with ho
    subst ho
    rw[iW (mC hzl),hfull] at agree
    have hls2:(ls.setIfInBounds i true).getD i false=true:=by rw[ZM hs];simp
    have hge2:∀ j,i+1<=j->j<ops.size->(ls.setIfInBounds i true).getD j false=false:=fun j hj hjs=>by
     exact qS
    have hcnt:(List.range i).countP (fun k=>!(ls.setIfInBounds i true).getD k false)+(ops.size-(i+1))<=fuel:=by
     have:=OO (p:=fun k=>!ls.getD k false) (q:=fun k=>!(ls.setIfInBounds i true).getD k false) (fun x hx=>by
      simp only[ZM hs,lS] at hx ⊢
      by_cases e:x=i
      ·rw[gZ e] at hx;cases hx
      ·rwa [ig e] at hx) (List.range i)
     omega
    have hfd:ZD (fun k=>(ls.setIfInBounds i true).getD k false) Z 0 fr0=ZD (fun k=>ls.getD k false) Z 0 fr0:=by
     funext t
     exact sH
    have nx:∀ av σ' a' w',(fb=true\/Xl σ σ')->XU P mu ops (ops.toList.drop (i+1)) R (fr1.putO e.dst av) σ'->YL n ds σ' ((ZD (fun k=>ls.getD k false) Z 0 fr0).putO e.dst av) a' w'->Ev σ w0 σ' w'->wpAnyIn (fen ro) mm P .any ops Q fuel (ls.setIfInBounds i true) a' w':=by
     intro av σ' a' w' hfs hk hc' he'
     refine Mb hd hB heo hzl hzk hfull (hheld σ' hfs) (fun a2 w2 hc2 he2=>XT (YR (List.all_eq_true.2 hB)) _ (fun o ho=>hB o (iX ho)) _ σ' a2 w2 hk hc2 (fun e fr' σ2 a3 w3 q c v=>hq e fr' σ2 a3 w3 q c (he2.trans v)) ro mm) fuel _ a' w' (hl.set hi) hge2 hls2 hcnt ?_ he'
     rw[hfd];exact hc'
    unfold wpOpIn
    simp only[heo]
    rcases hE with⟨hg,hop⟩|⟨hg,hk⟩
    ·rw[XO agree] at hg
     refine ve fun hw=>?_
     rw[gZ hw]
     refine(hop.congr (Vc agree)) a w hc.ok (fun x hx=>hc.fr.operand (X7 hoB x hx)) _ Q (fun av σ' u w' hk hu hs' he'=>?_) (fun pv σ2 w' hk _ _=>hk.elim) ro mm
     exact nx av σ' _ _ hk.1 hk.2 ⟨by rw[ZJ];exact hc.defers,(hc.fr.ev he').put hdo hu,hs'⟩ (he.trans he')
    ·rw[XO agree] at hg
     refine ve fun hw=>?_
     refine vJ ?_
     refine⟨fun _ _=>trivial,?_⟩
     exact nx _ σ _ _ (.inr (.refl σ)) hk ⟨by rw[ZJ];exact hc.defers,hc.fr.put hdo (.val undef),hc.ok⟩ he
   ·have hlt:i<s:=by omega
    have hz:Z[i]?=some Z[i]:=iO xh
    have hoz:=(hzk i _ hz).2
    generalize Z[i]=p at hz hoz
    obtain⟨o',v⟩:=p
    rw[ho] at hoz
    injection hoz with hoz
    simp only at hoz
    subst hoz
    have hb:=hat i o v hz
    simp only at hb
    have hup:=Ss (fr0:=fr0) hd hl hi him ho hzk' hz
    have hcnt:(List.range s).countP (fun k=>!(ls.setIfInBounds i true).getD k false)+(ops.size-s)<=fuel:=by
     have:=Td (s:=s) hs h2 hlt
     omega
    have hge2:∀ j,s+1<=j->j<ops.size->(ls.setIfInBounds i true).getD j false=false:=fun j hj hjs=>by
     exact qS
    have hsl2:(ls.setIfInBounds i true).getD s false=false:=by rw[ZM hs,ig xh];exact hns
    have nx:∀ a' w',YL n ds σ ((ZD (fun k=>ls.getD k false) Z 0 fr0).putO o.dst v) a' w'->Ev σ w0 σ w'->wpAnyIn (fen ro) mm P .any ops Q fuel (ls.setIfInBounds i true) a' w':=by
     exact sZ
    unfold wpOpIn
    simp only[ho]
    rcases hb with⟨hg,hop⟩|⟨hg,hvu⟩
    ·rw[XO agree] at hg
     refine ve fun hw=>?_
     rw[gZ hw]
     refine((hop σ (.inr (.refl σ))).congr (Vc agree)) a w hc.ok (fun x hx=>hc.fr.operand (X7 hoB x hx)) _ Q (fun av' σ2 u w' hk hu hs' he'=>?_) (fun pv σ2 w' hk _ _=>?_) ro mm
     ·obtain⟨hk,rfl⟩:=hk
      injection hk with hk
      subst hk
      exact nx _ _ ⟨by rw[ZJ];exact hc.defers,(hc.fr.ev he').put hdo hu,hs'⟩ (he.trans he')
     ·exact absurd hk.1 xf
    ·rw[XO agree] at hg
     refine ve fun hw=>?_
     refine vJ ?_
     refine⟨fun _ _=>trivial,?_⟩
     subst hvu
     exact nx _ _ ⟨by rw[ZJ];exact hc.defers,hc.fr.put hdo (.val undef),hc.ok⟩ he
def JB(P:nE)(mu:List Nat)(ops:nN nI)(fb:Bool)(Q:Exit->Fr->Store->Prop)(σ:Store):List nI->Fr->Prop
 | [],fr=>Q .normal fr σ
 | e::r,fr=>XV ops e.guard fr (C2 P mu (XU P mu ops r) Q fb σ e) (cp (XU P mu ops r) Q σ e.dst)
def QJ(P:nE)(mu:List Nat)(ops:nN nI)(Q:Exit->Fr->Store->Prop)(σ:Store)(l:List nI):Nat->Fr->Prop
 | 0,fr=>XU P mu ops l Q fr σ
 | 1,fr=>JB P mu ops false Q σ l fr
 | _,fr=>JB P mu ops true Q σ l fr
def ahd(P:nE)(mu:List Nat)(ops:nN nI)(Q:Exit->Fr->Store->Prop)(σ:Store)(k:Nat):Nat->List nI->Fr->Prop
 | 0,l,fr=>QJ P mu ops Q σ l k fr
 | m+1,[],fr=>False
 | m+1,o::r,fr=>XV ops o.guard fr (C1 P (ahd P mu ops Q σ k m r) σ o) (Iv (ahd P mu ops Q σ k m r) o.dst)
theorem Th{P:nE}{mu:List Nat}{ops:nN nI}{Q:Exit->Fr->Store->Prop}{σ:Store}{k:Nat}:∀ (m:Nat) (l:List nI),ahd P mu ops Q σ k m l=if m<=l.length then Po P ops σ (QJ P mu ops Q σ (l.drop m) k) (l.take m) else ahd P mu ops Q σ k m l:=by
 intro m
 induction m with
 | zero=>intro l;rfl
 | succ m ih =>
   intro l
   cases l with
   | nil=>rfl
   | cons o r =>
     by_cases h:m<=r.length
     ·have e:=ih r
      rw[gZ h] at e
      rw[gZ xJ]
      funext fr
      simp only[ahd,lh,List.drop_succ_cons,Po]
      rw[e]
     ·rw[ig xJ]
def Rq:List (Nat×Nat×Nat)->Nat->Nat×Nat
 | [],_=>(0,0)
 | (i,m,k)::r,id=>if i=id then(m,k) else Rq r id
theorem Sp{ops:nN nI}:Lst ops (Array.replicate ops.size false):=⟨by simp,fun i o e ho hi=>by rw[getD_none] at hi;cases hi⟩
theorem Sq(s n:Nat):(List.range s).countP (fun i=>!(Array.replicate n false).getD i false)<=s:=by
 have:=List.countP_le_length (p:=fun i=>!(Array.replicate n false).getD i false) (l:=List.range s)
 simpa using this
theorem OB(n:Nat)(l:List (nI×AV))(fr:Fr):ZD (fun i=>(Array.replicate n false).getD i false) l 0 fr=fr:=by
 have e1:(fun i=>(Array.replicate n false).getD i false)=fun _=>false:=by funext i;exact getD_none _ _
 rw[e1,XD]
theorem IH{P:nE}{n:Nat}{ds:List nK}{mu:List Nat}{ops:nN nI}{Q:Exit->Fr->Store->Prop}{fr:Fr}{σ:Store}{fb:Bool}{m:Nat}(hB:ops.toList.all (opB n)=true)
 (hc:TH ops (m+1)=true) (hf:fb=true->NC ops m=true) (h:Po P ops σ (JB P mu ops fb Q σ (ops.toList.drop m)) (ops.toList.take m) fr):RB P n ds ops Q fr σ:=by
 intro a w hcf Q' hq ro mm
 obtain⟨pv,fr1,hT,hrest⟩:=UZ _ _ h
 have hd:=Ve hc
 have hBl:=List.all_eq_true.1 hB
 have hev:=Ev.drew σ w
 have hle:=hd.le
 have hms:m<ops.size:=by omega
 have heo:ops[m]?=some ops[m]:=jK hms
 have hdr:ops.toList.drop m=ops[m]::ops.toList.drop (m+1):=by
  rw[mw (by simpa using hms)];rfl
 generalize ops[m]=e at heo hdr
 rw[hdr] at hrest
 simp only[JB] at hrest
 refine(OW (mu:=mu) (fb:=fb) (R:=Q) hd hBl heo hf hT (w0:=w) ?_ hq ops.size _ a _ Sp (fun j _ _=>getD_none _ _) (getD_none _ _) ?_ ?_ hev)
 ·rcases OR hrest with⟨hg,hx⟩|⟨hg,hx⟩
  ·exact .inl ⟨hg,YW hx⟩
  ·exact .inr ⟨hg,hx⟩
 ·have:=Sq m ops.size
  omega
 ·rw[OB];exact⟨hcf.defers,hcf.fr.ev hev,hcf.ok.drew⟩
def Aw(P:nE)(O:Store->Prop)(fr:Fr)(op:Op)(v:AV):Store->Prop:=fun σ'=>O σ'/\ZN P fr.ev σ' (fun u=>u=v) op
def kOb(P:nE)(k:(Store->Prop)->Fr->Prop)(O:Store->Prop)(fr:Fr)(d:nM Nat)(op:Op):AV->Prop:=fun v=>k (Aw P O fr op v) (fr.putO d v)
def KM(P:nE)(mu:List Nat)(ops:nN nI)(Q:Exit->Fr->Store->Prop)(O:Store->Prop)(m:Nat)(r:List nI)(fr:Fr)(d:nM Nat):ZE->Store->Prop
 | .ret av,σ'=>O σ'/\ahd P mu ops Q σ' 0 m r (fr.putO d av)
 | .pan pv,σ'=>∀ fr',Q (.panic [{ v:=pv,recovered:=false }]) fr' σ'
def R3(P:nE)(mu:List Nat)(ops:nN nI)(Q:Exit->Fr->Store->Prop)(σ:Store)(m:Nat):Nat->List nI->(Store->Prop)->Fr->Prop
 | _,[],_,_=>False
 | 0,e::r,O,fr=>e.guard=none/\ZA P (match e.dst with|some d=>mu.contains d|none=>false) fr.ev σ (KM P mu ops Q O m r fr e.dst) e.op
 | s+1,o::r,O,fr=>o.guard=none/\ZN P fr.ev σ (kOb P (R3 P mu ops Q σ m s r) O fr o.dst o.op) o.op
inductive HTp (P:Program) (σ:Store):List Oper->Fr->List AV->Fr->Prop where
 | nil (fr:Fr):HTp P σ [] fr [] fr
 | cons (o:nI) (r:List nI) (fr fr':Fr) (v:AV) (vs:List AV) (hg:o.guard=none) (h:AOp P o fr.ev σ (ZP v σ)) (t:HTp P σ r (fr.putO o.dst v) vs fr'):HTp P σ (o::r) fr (v::vs) fr'
theorem HTp.len{P:nE}{σ:Store}{l:List nI}{fr fr':Fr}{vs:List AV}(h:HTp P σ l fr vs fr'):vs.length=l.length:=by
 induction h with
 | nil=>rfl
 | cons _ _ _ _ _ _ _ _ _ ih=>simp[ih]
theorem HTp.all{P:nE}{σ:Store}{l:List nI}{fr fr':Fr}{vs:List AV}(h:HTp P σ l fr vs fr'):∀ s,ZD (fun _=>true) (l.zip vs) s fr=fr':=by
 induction h with
 | nil=>intro s;rfl
 | cons _ _ _ _ _ _ _ _ _ ih=>intro s;simp only[lW,ZD,iE];exact ih _
theorem HTp.at_{P:nE}{σ:Store}{l:List nI}{fr fr':Fr}{vs:List AV}(h:HTp P σ l fr vs fr'):∀ (i:Nat) (o:nI) (v:AV),l[i]?=some o->vs[i]?=some v->∀ s,
 o.guard=none/\AOp P o (ZD (fun _=>true) ((l.zip vs).take i) s fr).ev σ (ZP v σ):=by
 induction h with
 | nil=>intro i o v ho;simp at ho
 | cons o r fr fr' v vs hg h t ih =>
   intro i p u hp hu s
   cases i with
   | zero=>simp at hp hu;subst hp;subst hu;exact⟨hg,h⟩
   | succ i=>simp only[lW,lh,ZD,iE];exact ih i p u xQ xP _
theorem BI{P:nE}{mu:List Nat}{ops:nN nI}{Q:Exit->Fr->Store->Prop}{σ:Store}{m:Nat}:∀ (s:Nat) (l:List nI) (O:Store->Prop) (fr:Fr),R3 P mu ops Q σ m s l O fr ->
 ∃ pv fr1 e O1,l[s]?=some e/\e.guard=none/\HTp P σ (l.take s) fr pv fr1/\ZA P (match e.dst with|some d=>mu.contains d|none=>false) fr1.ev σ (KM P mu ops Q O1 m (l.drop (s+1)) fr1 e.dst) e.op/\∀ σ',O1 σ'->O σ'/\HTp P σ' (l.take s) fr pv fr1:=by
 intro s
 induction s with
 | zero =>
   intro l O fr h
   cases l with
   | nil=>exact h.elim
   | cons e r=>exact⟨[],fr,e,O,rfl,h.1,.nil _,h.2,fun σ' ho=>⟨ho,.nil _⟩⟩
 | succ s ih =>
   intro l O fr h
   cases l with
   | nil=>exact h.elim
   | cons o r =>
     obtain⟨hg,h⟩:=h
     obtain⟨v,hk,hop⟩:=UL h
     obtain⟨pv,fr1,e,O1,h1,h2,h3,h4,h5⟩:=ih r _ _ hk
     refine⟨v::pv,fr1,e,O1,by simpa using h1,h2,.cons o _ fr fr1 v pv hg hop h3,by simpa using h4,fun σ' ho=>?_⟩
     obtain⟨⟨ho1,ho2⟩,h6⟩:=h5 σ' ho
     obtain⟨u,rfl,hu⟩:=UL ho2
     exact⟨ho1,.cons o _ fr fr1 u pv hg hu h6⟩
theorem L3{P:nE}{ro:nM Nat}{mm:Nat}{ops:nN nI}{m s n:Nat}(hd:Vk ops m)(hB:∀ o∈ops.toList,opB n o=true){ds:List nK}{σ':Store}{fr0 fr1:Fr}{Z:List (nI×AV)}(hzl:Z.length=m)
 (hzk:∀ (k:Nat) (p:nI×AV),Z[k]?=some p->k<m/\ops[k]?=some p.1) (hfull:ZD (fun _=>true) Z 0 fr0=fr1) {Q:Exit->Act->nH->Prop} {w0:nH} {σ:Store}
 (hH:∀ (i:Nat) (o:nI) (v:AV),Z[i]?=some (o,v)->i≠s->(gw ops o.guard (ZD (fun _=>true) (Z.take i) 0 fr0)=some true/\AOp P o (ZD (fun _=>true) (Z.take i) 0 fr0).ev σ' (ZP v σ'))\/(gw ops o.guard (ZD (fun _=>true) (Z.take i) 0 fr0)=some false/\v=.val undef))
 (hrest:∀ a w,YL n ds σ' fr1 a w->Ev σ w0 σ' w->wpListIn (fen ro) mm P ops Q (ops.toList.drop m) a w) :
 ∀ (fuel:Nat) (ls:nN Bool) (a:Act) (w:nH),Lst ops ls->(∀ j,m<=j->j<ops.size->ls.getD j false=false)->ls.getD s false=true->(List.range m).countP (fun i=>!ls.getD i false)+(ops.size-m)<=fuel ->
   YL n ds σ' (ZD (fun i=>ls.getD i false) Z 0 fr0) a w->Ev σ w0 σ' w->wpAnyIn (fen ro) mm P .any ops Q fuel ls a w:=by
 refine vC fun hdst=>?_
 have full:∀ (fuel:Nat) (ls:nN Bool) (a:Act) (w:nH),Lst ops ls->(∀ j,m<=j->j<ops.size->ls.getD j false=false)->(∀ j,j<m->ls.getD j false=true)->ops.size<=m+fuel ->
  YL n ds σ' (ZD (fun i=>ls.getD i false) Z 0 fr0) a w->Ev σ w0 σ' w->wpAnyIn (fen ro) mm P .any ops Q fuel ls a w:=by
  intro fuel ls a w hl hge hlt hf hc he
  have e1:ZD (fun i=>ls.getD i false) Z 0 fr0=fr1:=by
   exact sE
  exact ra
 intro fuel
 induction fuel with
 | zero =>
   intro ls a w hl hge hsl hf hc he
   exact qx
 | succ fuel ih =>
   intro ls a w hl hge hsl hf hc he
   by_cases hall:∀ j,j<m->ls.getD j false=true
   ·exact full (fuel+1) ls a w hl hge hall xh hc he
   ·have:∃ j,j<m/\ls.getD j false=false:=by
     exact pY
    obtain⟨j0,hj0,hl0⟩:=this
    refine⟨fun hr=>absurd hr (XS hd hl (jJ hj0 hd.le) hl0),fun i hi=>?_⟩
    obtain⟨h1,h2,o,ho,h3⟩:=Yl.1 hi
    refine wh fun hs=>?_
    rw[Xj hs] at h2
    have hne:i≠s:=by intro e;rw[e,hsl] at h2;cases h2
    have him:i<m:=by
     exact sJ
    have hoB:opB n o=true:=hB o yw
    have hz:Z[i]?=some Z[i]:=iO xh
    have hoz:=(hzk i _ hz).2
    generalize Z[i]=p at hz hoz
    obtain⟨o',v⟩:=p
    rw[ho] at hoz
    injection hoz with hoz
    simp only at hoz
    subst hoz
    have hb:=hH i o v hz hne
    have agree:=Ud (fr0:=fr0) hd hl hi him ho hzk (by omega:i<=Z.length)
    have hup:=Ss (fr0:=fr0) hd hl hi him ho hzk hz
    have hcnt:(List.range m).countP (fun k=>!(ls.setIfInBounds i true).getD k false)+(ops.size-m)<=fuel:=by
     have:=Td (s:=m) hs h2 him
     omega
    have hge2:∀ j,m<=j->j<ops.size->(ls.setIfInBounds i true).getD j false=false:=fun j hj hjs=>by
     exact qS
    have hsl2:(ls.setIfInBounds i true).getD s false=true:=by rw[ZM hs,ig (iC hne)];exact hsl
    have hdo:=Xh hoB
    unfold wpOpIn
    simp only[ho]
    have nx:∀ a' w',YL n ds σ' ((ZD (fun k=>ls.getD k false) Z 0 fr0).putO o.dst v) a' w'->Ev σ w0 σ' w'->wpAnyIn (fen ro) mm P .any ops Q fuel (ls.setIfInBounds i true) a' w':=by
     exact sZ
    exact oJ
def AD(ops:nN nI)(s m:Nat):Bool:=(List.range m).all fun i=>decide (i<=s) || ((RI ops.toList []).getD i 0).testBit s
theorem CK{ops:nN nI}{s m:Nat}(h:AD ops s m=true):∀ i,s<i->i<m->Bef ops s i:=by
 intro i h1 h2
 have hms:=XX (ops:=ops) ops.toList [] (fun j=>by simp) (fun j k hk=>by simp at hk)
 have:=List.all_eq_true.1 h i (List.mem_range.2 h2)
 simp only[kH,kD] at this
 exact hms _ _ (this.resolve_left xh)
theorem L4{P:nE}{ro:nM Nat}{mm:Nat}{mu:List Nat}{ops:nN nI}{s m n:Nat}(hd:Vk ops m)(hsm:s<m)(hmid:∀ i,s<i->i<m->Bef ops s i)(hB:∀ o∈ops.toList,opB n o=true){ds:List nK}{σ:Store}{fr0 fr1:Fr}{pv:List AV}{e:nI}(heo:ops[s]?=some e)(heg:e.guard=none)
 (hT:HTp P σ (ops.toList.take s) fr0 pv fr1) {Q:Exit->Act->nH->Prop} {R:Exit->Fr->Store->Prop} {w0:nH} {O:Store->Prop} (hO:∀ σ',O σ'->HTp P σ' (ops.toList.take s) fr0 pv fr1)
 (hE:AOp P e fr1.ev σ (KM P mu ops R O (m-s-1) (ops.toList.drop (s+1)) fr1 e.dst))
 (hq:∀ e fr' σ' a' w',R e fr' σ'->YL n ds σ' fr' a' w'->Ev σ w0 σ' w'->Q e a' w') :
 ∀ (fuel:Nat) (ls:nN Bool) (a:Act) (w:nH),Lst ops ls->(∀ j,m<=j->j<ops.size->ls.getD j false=false)->ls.getD s false=false->(List.range m).countP (fun i=>!ls.getD i false)+(ops.size-m)<=fuel ->
   YL n ds σ (ZD (fun i=>ls.getD i false) ((ops.toList.take s).zip pv) 0 fr0) a w->Ev σ w0 σ w->wpAnyIn (fen ro) mm P .any ops Q fuel ls a w:=by
 refine vC fun hdst=>?_
 have hlen:=hT.len
 have hdle:=hd.le
 have hsl:s<ops.size:=by omega
 obtain⟨Z,hZ⟩:∃ Z,Z=(ops.toList.take s).zip pv:=⟨_,rfl⟩
 have hzl:Z.length=s:=by rw[hZ,mA,hlen,Nat.min_self,ip,lO];omega
 have hzk:∀ (k:Nat) (p:nI×AV),Z[k]?=some p->k<s/\ops[k]?=some p.1:=by
  intro k p hk
  have hks:k<s:=by have:=(List.getElem?_eq_some_iff.1 hk).1;omega
  rw[hZ,mz,jF hks] at hk
  exact⟨hks,by simpa using hk.1⟩
 have hzk':∀ (k:Nat) (p:nI×AV),Z[k]?=some p->k<m/\ops[k]?=some p.1:=fun k p h=>⟨by have:=(hzk k p h).1;omega,(hzk k p h).2⟩
 have hfull:ZD (fun _=>true) Z 0 fr0=fr1:=by rw[hZ];exact hT.all 0
 have hat:∀ (σ':Store),HTp P σ' (ops.toList.take s) fr0 pv fr1->∀ (i:Nat) (o:nI) (v:AV),Z[i]?=some (o,v)->o.guard=none/\AOp P o (ZD (fun _=>true) (Z.take i) 0 fr0).ev σ' (ZP v σ'):=by
  intro σ' hT' i o v hz
  rw[hZ] at hz ⊢
  rw[mz] at hz
  exact hT'.at_ i o v hz.1 hz.2 0
 rw[<- hZ]
 intro fuel
 induction fuel with
 | zero =>
   intro ls a w hl hge hns hf hc he
   have:0<(List.range m).countP (fun i=>!ls.getD i false):=List.countP_pos_iff.2 ⟨s,List.mem_range.2 hsm,by simp[hns]⟩
   omega
 | succ fuel ih =>
   intro ls a w hl hge hns hf hc he
   refine⟨fun hr=>absurd hr (XS hd hl hsl hns),fun i hi=>?_⟩
   obtain⟨h1,h2,o,ho,h3⟩:=Yl.1 hi
   refine wh fun hs=>?_
   rw[Xj hs] at h2
   have him:i<s+1:=by
    apply kP
    intro hle
    have hb:Bef ops s i:=by
     by_cases hm:i<m
     ·exact hmid i xh hm
     ·exact hd.tail i s xh h1 xh
    have:=hl.bef_ready hb hi
    rw[hns] at this
    cases this
   have hoB:opB n o=true:=hB o yw
   have hdo:=Xh hoB
   have agree:=Ud (fr0:=fr0) hd hl hi xh ho hzk' (by omega:i<=Z.length)
   have hcnt:(List.range m).countP (fun k=>!(ls.setIfInBounds i true).getD k false)+(ops.size-m)<=fuel:=by
    have:=Td (s:=m) hs h2 xh
    omega
   have hge2:∀ j,m<=j->j<ops.size->(ls.setIfInBounds i true).getD j false=false:=fun j hj hjs=>by
    exact qS
   have guardless:∀ (o:nI),o.guard=none->Region.wanted o (yielded ops a.tmps)=true:=fun o hg =>
    XC (P:=P) (o:=o) (ops:=ops) (fr:=ZD (fun i=>ls.getD i false) Z 0 fr0) (b:=true) (L:=live σ) (w:=w) (by rw[hg];rfl) hc.fr.size (fun j want d hgg _=>by rw[hg] at hgg;cases hgg)
   by_cases hie:i=s
   ·subst hie
    rw[heo] at ho
    injection ho with ho
    subst ho
    rw[iW (mC hzl),hfull] at agree
    have hls2:(ls.setIfInBounds i true).getD i false=true:=by rw[ZM hs];simp
    unfold wpOpIn
    simp only[heo]
    rw[gZ (guardless e heg)]
    refine(hE.congr (Vc agree)) a w hc.ok (fun x hx=>hc.fr.operand (X7 hoB x hx)) _ Q (fun av σ' u w' hk hu hs' he'=>?_) (fun pv σ2 w' hk hs' he'=>?_) ro mm
    ·obtain⟨hk1,hk2⟩:=hk
     have hT':=hO σ' hk1
     have hlr:m-i-1<=(ops.toList.drop (i+1)).length:=by rw[iP,lO];omega
     rw[Th,gZ hlr] at hk2
     obtain⟨pv2,fr2,hT2,hrest⟩:=UZ _ _ hk2
     have hl2:=hT2.len
     obtain⟨Y,hY⟩:∃ Y,Y=((ops.toList.drop (i+1)).take (m-i-1)).zip pv2:=⟨_,rfl⟩
     have hyl:Y.length=m-i-1:=by rw[hY,mA,hl2,Nat.min_self,ip,iP,lO];omega
     have hyk:∀ (k:Nat) (p:nI×AV),Y[k]?=some p->k<m-i-1/\ops[i+1+k]?=some p.1:=by
      intro k p hk
      have hks:k<m-i-1:=by have:=(List.getElem?_eq_some_iff.1 hk).1;omega
      rw[hY,mz,jF hks,ku] at hk
      exact⟨hks,by simpa using hk.1⟩
     have hzl2:(Z++(e,av)::Y).length=m:=by rw[ii,ij,hzl,hyl];omega
     have hidx:∀ (k:Nat) (p:nI×AV),(Z++(e,av)::Y)[k]?=some p->(k<i/\Z[k]?=some p)\/(k=i/\p=(e,av))\/(∃ j,k=i+1+j/\Y[j]?=some p):=by
      intro k p hk
      by_cases h:k<i
      ·rw[jU xh] at hk;exact .inl ⟨h,hk⟩
      ·rw[jT xh,hzl] at hk
       by_cases h2:k=i
       ·subst h2;simp at hk;exact .inr (.inl ⟨rfl,hk.symm⟩)
       ·obtain⟨j,rfl⟩:∃ j,k=i+1+j:=⟨k-i-1,by omega⟩
        rw[show i+1+j-i=j+1 by omega,mg] at hk
        exact .inr (.inr ⟨j,rfl,hk⟩)
     have fold2:ZD (fun _=>true) (Z++(e,av)::Y) 0 fr0=fr2:=by
      rw[Xk,hfull,hzl,ZD]
      simp only[iE]
      rw[hY];exact hT2.all _
     refine L3 (ds:=ds) (s:=i) hd hB hzl2 (fun k p hk=>?_) fold2 (fun k o v hk hne=>?_) (fun a2 w2 hc2 he2=>?_) fuel _ _ w' (hl.set hi) hge2 hls2 hcnt ?_ (he.trans he')
     ·rcases hidx k p hk with⟨h1,h2⟩|⟨rfl,rfl⟩|⟨j,rfl,h2⟩
      ·exact hzk' k p h2
      ·exact⟨by omega,heo⟩
      ·obtain⟨h3,h4⟩:=hyk j p h2;exact⟨by omega,h4⟩
     ·rcases hidx k (o,v) hk with⟨h1,h2⟩|⟨rfl,_⟩|⟨j,rfl,h2⟩
      ·have:=hat σ' hT' k o v h2
       rw[mD xh]
       exact .inl ⟨by rw[this.1];rfl,this.2⟩
      ·exact absurd rfl hne
      ·obtain⟨h3,h4⟩:=hyk j _ h2
       rw[hY,mz] at h2
       have:=hT2.at_ j o v h2.1 h2.2 (i+1)
       simp only at this
       have htk:(Z++(e,av)::Y).take (i+1+j)=Z++(e,av)::Y.take j:=by
        rw[List.take_append,hzl,iW xh,show i+1+j-i=j+1 by omega,lh]
       rw[htk,Xk,hfull,hzl,ZD]
       simp only[iE,jG]
       rw[hY]
       exact this.imp (fun⟨h1,h2⟩=>⟨h1,h2 σ' (.inr (.refl _))⟩) id
     ·have hdr:(ops.toList.drop (i+1)).drop (m-i-1)=ops.toList.drop m:=by rw[List.drop_drop];congr 1;omega
      simp only[QJ] at hrest
      rw[hdr] at hrest
      exact XT (YR (List.all_eq_true.2 hB)) _ (fun o ho=>hB o (iX ho)) _ σ' a2 w2 hrest hc2 (fun e fr' σ2 a3 w3 q c v=>hq e fr' σ2 a3 w3 q c (he2.trans v)) ro mm
     ·have e1:ZD (fun k=>(ls.setIfInBounds i true).getD k false) (Z++(e,av)::Y) 0 fr0=(ZD (fun k=>ls.getD k false) Z 0 fr0).putO e.dst av:=by
       rw[Xk,hzl,ZD]
       simp only[jG,hls2,iE]
       have e2:ZD (fun k=>(ls.setIfInBounds i true).getD k false) Z 0 fr0=ZD (fun k=>ls.getD k false) Z 0 fr0:=by
        funext t
        exact sH
       rw[e2]
       funext t
       have:=Yh (D:=fun k=>(ls.setIfInBounds i true).getD k false) (D':=fun _=>false) (t:=t) Y (i+1) ((ZD (fun k=>ls.getD k false) Z 0 fr0).putO e.dst av) _ rfl (fun k p hk=>.inl (by
        obtain⟨h3,h4⟩:=hyk k p hk
        rw[ZM hs,ig xh]
        cases hv:ls.getD (i+1+k) false with
        | false=>rfl
        | true=>rw[hl.bef (hmid (i+1+k) xh xh) hv] at hns;cases hns))
       rw[this,XD]
      rw[e1]
      exact⟨by rw[ZJ];exact hc.defers,(hc.fr.ev he').put hdo hu,hs'⟩
    ·exact hq _ _ _ _ _ (hk (ZD (fun i=>ls.getD i false) Z 0 fr0)) ⟨hc.defers,hc.fr.ev he',hs'⟩ (he.trans he')
   ·have hlt:i<s:=by omega
    have hz:Z[i]?=some Z[i]:=iO xh
    have hoz:=(hzk i _ hz).2
    generalize Z[i]=p at hz hoz
    obtain⟨o',v⟩:=p
    rw[ho] at hoz
    injection hoz with hoz
    simp only at hoz
    subst hoz
    obtain⟨hg,hop⟩:=hat σ hT i o v hz
    have hup:=Ss (fr0:=fr0) hd hl hi xh ho hzk' hz
    have hsl2:(ls.setIfInBounds i true).getD s false=false:=by rw[ZM hs,ig xh];exact hns
    unfold wpOpIn
    simp only[ho]
    rw[gZ (guardless o hg)]
    refine(hop.congr (Vc agree)) a w hc.ok (fun x hx=>hc.fr.operand (X7 hoB x hx)) _ Q (fun av' σ2 u w' hk hu hs' he'=>?_) (fun pv σ2 w' hk _ _=>?_) ro mm
    ·obtain⟨hk,rfl⟩:=hk
     injection hk with hk
     subst hk
     refine ih _ _ w' (hl.set hi) hge2 hsl2 hcnt ?_ (he.trans he')
     rw[hup]
     exact⟨by rw[ZJ];exact hc.defers,(hc.fr.ev he').put hdo hu,hs'⟩
    ·exact absurd hk.1 xf
theorem BH{P:nE}{n:Nat}{ds:List nK}{mu:List Nat}{ops:nN nI}{Q:Exit->Fr->Store->Prop}{fr:Fr}{σ:Store}{s m:Nat}(hB:ops.toList.all (opB n)=true)
 (hc:TH ops m=true) (hsm:s<m) (hmid:AD ops s m=true) (h:R3 P mu ops Q σ (m-s-1) s ops.toList (fun _=>True) fr):RB P n ds ops Q fr σ:=by
 intro a w hcf Q' hq ro mm
 obtain⟨pv,fr1,e,O,h1,h2,h3,h4,h5⟩:=BI _ _ _ _ h
 have hd:=Ve hc
 have hBl:=List.all_eq_true.1 hB
 have hev:=Ev.drew σ w
 have hle:=hd.le
 refine(L4 (mu:=mu) (R:=Q) hd hsm (CK hmid) hBl (by simpa using h1) h2 h3 (fun σ' ho=>(h5 σ' ho).2) (YW h4) (w0:=w) hq ops.size _ a _ Sp (fun j _ _=>getD_none _ _) (getD_none _ _) ?_ ?_ hev)
 ·have:=Sq m ops.size
  omega
 ·rw[OB];exact⟨hcf.defers,hcf.fr.ev hev,hcf.ok.drew⟩
def drB(ops:nN nI):Nat×Nat->Bool
 | (m,0)=>TH ops m
 | (m,1)=>TH ops (m+1)
 | (m,2)=>TH ops (m+1)&&NC ops m
 | (m,s+3)=>TH ops m&&decide (s<m)&&AD ops s m
def adk(P:nE)(mu:List Nat)(ops:nN nI)(Q:Exit->Fr->Store->Prop)(σ:Store)(k m:Nat)(l:List nI)(fr:Fr):Prop :=
 if 3<=k then R3 P mu ops Q σ (m-(k-3)-1) (k-3) l (fun _=>True) fr else ahd P mu ops Q σ k m l fr
def adr(P:nE)(mu:List Nat)(dr:List (Nat×Nat×Nat))(id:Nat)(ops:nN nI)(Q:Exit->Fr->Store->Prop)(fr:Fr)(σ:Store):Prop :=
 adk P mu ops Q σ (Rq dr id).2 (Rq dr id).1 ops.toList fr
theorem BM{P:nE}{n:Nat}{ds:List nK}{mu:List Nat}{dr:List (Nat×Nat×Nat)}{id:Nat}{ops:nN nI}{Q:Exit->Fr->Store->Prop}{fr:Fr}{σ:Store}(hB:ops.toList.all (opB n)=true)
 (hc:drB ops (Rq dr id)=true) (h:adr P mu dr id ops Q fr σ):RB P n ds ops Q fr σ:=by
 unfold adr at h
 generalize Rq dr id=p at hc h
 obtain⟨m,k⟩:=p
 simp only[adk] at h
 match k,hc,h with
 | 0,hc,h =>
   have hlen:m<=ops.toList.length:=by rw[lO];exact(Ve hc).le
   rw[ig xh,Th,gZ hlen] at h
   exact ca m hc hB h
 | 1,hc,h =>
   have hlen:m<=ops.toList.length:=by rw[lO];have:=(Ve hc).le;omega
   rw[ig xh,Th,gZ hlen] at h
   exact IH hB hc (fun h=>by cases h) h
 | 2,hc,h =>
   simp only[drB,kJ] at hc
   have hlen:m<=ops.toList.length:=by rw[lO];have:=(Ve hc.1).le;omega
   rw[ig xh,Th,gZ hlen] at h
   exact IH hB hc.1 (fun _=>hc.2) h
 | s+3,hc,h =>
   simp only[drB,kJ,kD] at hc
   rw[gZ xh] at h
   exact BH hB hc.1.1 hc.1.2 hc.2 h
theorem aI{P:nE}{n:Nat}{ds:List nK}{mu:List Nat}{dr:List (Nat×Nat×Nat)}{id:Nat}{ops:nN nI}{Q:Exit->Fr->Store->Prop}{fr:Fr}{σ:Store}(hm:P.follows .mixedOrders=true)(hB:ops.toList.all (opB n)=true)
 (hc:drB ops (Rq dr id)=true) (h:adr P mu dr id ops Q fr σ):AWp P n ds (.region id ops true) Q fr σ:=(BM hB hc h).awp hm
open Go.RowKit
def U0(v:AV)(A B:((Exit->Fr->Store->Prop)->Fr->Store->Prop))(Q:Exit->Fr->Store->Prop)(fr:Fr)(σ:Store):Prop :=
 match v with
 | .val (.bool b)=>(b=true->A Q fr σ)/\(b=false->B Q fr σ)
 | _=>False
def I0(dr:List (Nat×Nat×Nat)):Code->Bool
 | .region id _ true=>decide (1000<=(Rq dr id).1)
 | _=>false
def avc(P:nE)(n:Nat)(ds:List nK)(mu:List Nat)(dr:List (Nat×Nat×Nat)):Code->(Exit->Fr->Store->Prop)->Fr->Store->Prop
 | .skip,Q,fr,σ=>Q .normal fr σ
 | .region id ops false,Q,fr,σ=>XU P mu ops ops.toList Q fr σ
 | .region id ops true,Q,fr,σ=>adr P mu dr id ops Q fr σ
 | .seq a b,Q,fr,σ=>if I0 dr a=true then AWp P n ds (.seq a b) Q fr σ else avc P n ds mu dr a (V9 (avc P n ds mu dr b) Q) fr σ
 | .cond c t e,Q,fr,σ=>U0 (fr.ev c) (avc P n ds mu dr t) (avc P n ds mu dr e) Q fr σ
 | .block id c,Q,fr,σ=>avc P n ds mu dr c (Ua id Q) fr σ
 | .loop c,Q,fr,σ=>AWp P n ds (.loop c) Q fr σ
 | .exit id,Q,fr,σ=>Q (.exit id) fr σ
 | .ret,Q,fr,σ=>Q .ret fr σ
 | .goto l,Q,fr,σ=>Q (.goto l) fr σ
 | .label _,Q,fr,σ=>Q .normal fr σ
 | _,_,_,_=>False
def Vu(n:Nat)(dr:List (Nat×Nat×Nat)):Code->Bool
 | .region id ops d=>ops.toList.all (opB n)&&(!d || drB ops (Rq dr id))
 | .seq a b=>I0 dr a || (Vu n dr a&&Vu n dr b)
 | .cond c t e=>dT n c&&Vu n dr t&&Vu n dr e
 | .block _ c=>Vu n dr c
 | .loop c=>Vu n dr c
 | _=>true
theorem WI{F:Fence}{k:Nat}{P:nE}{Q:Exit->Act->nH->Prop}{a:Act}{w:nH}{c:Code}(I:Nat->Act->nH->Prop)(n₀:Nat)(h₀:I n₀ a w)
 (round:∀ n a w,I n a w->c.wpIn F k P (Exit.then (fun a' w'=>∃ n',n'<n/\I n' a' w') Q) a w):(Code.loop c).wpIn F k P Q a w:=by
 refine wpIn_loop (fun a w=>∃ n,I n a w) (fun a w=>leastOf (fun n=>I n a w)) ⟨n₀,h₀⟩ ?_
 intro a w hI
 refine Go.wpIn_mono (round _ a w (leastOf_spec hI).1) ?_
 intro e a' w' hq
 cases e with
 | normal =>
   obtain⟨n',hlt,hI'⟩:=hq
   exact show(∃ n,I n a' w')/\leastOf (fun n=>I n a' w')<leastOf (fun n=>I n a w) from⟨⟨n',hI'⟩,mE ((leastOf_spec ⟨n',hI'⟩).2 n' hI') hlt⟩
 | exit id=>exact hq
 | goto l=>exact hq
 | ret=>exact hq
 | panic ch=>exact hq
 | outgrown=>exact hq
theorem Zn{P:nE}{n:Nat}{ds:List nK}{mu:List Nat}{dr:List (Nat×Nat×Nat)}(hm:P.follows .mixedOrders=true):∀ (c:Code),Vu n dr c=true->∀ (Q:Exit->Fr->Store->Prop) (fr:Fr) (σ:Store),avc P n ds mu dr c Q fr σ->AWp P n ds c Q fr σ:=by
 intro c
 induction c with
 | skip=>intro _ Q fr σ h a w hc Q' hq ro m;exact wpIn_skip (hq _ _ _ _ _ h hc (Ev.refl _ _))
 | region id ops d =>
   intro hB Q fr σ h
   simp only[Vu,kJ,kH] at hB
   cases d with
   | false =>
     intro a w hc Q' hq ro m
     exact wpIn_region_list (XT (YR hB.1) ops.toList (List.all_eq_true.1 hB.1) fr σ a w h hc hq ro m)
   | true=>exact aI hm hB.1 (hB.2.resolve_left xf) h
 | seq x y ihx ihy =>
   intro hB Q fr σ h
   simp only[avc] at h
   split at h
   ·exact h
   rename_i hraw
   intro a w hc Q' hq ro m
   simp only[Vu,kH,kJ] at hB
   replace hB:=hB.resolve_left hraw
   refine wpIn_seq (ihx hB.1 _ fr σ h a w hc _ (fun e fr' σ' a' w' q c' v=>?_) ro m)
   cases e with
   | normal=>exact ihy hB.2 Q fr' σ' q a' w' c' Q' (fun e2 fr2 σ2 a2 w2 q2 c2 v2=>hq e2 fr2 σ2 a2 w2 q2 c2 (v.trans v2)) ro m
   | exit i=>exact hq _ _ _ _ _ q c' v
   | goto l=>exact hq _ _ _ _ _ q c' v
   | ret=>exact hq _ _ _ _ _ q c' v
   | panic ch=>exact hq _ _ _ _ _ q c' v
   | outgrown=>exact hq _ _ _ _ _ q c' v
 | cond c t e iht ihe =>
   intro hB Q fr σ h a w hc Q' hq ro m
   simp only[Vu,kJ] at hB
   simp only[avc,U0] at h
   split at h
   ·rename_i b hb
    have hv:=hc.fr.operand (a:=a) hB.1.1
    rw[hb] at hv
    generalize hx:a.eval c=x at hv
    cases hv
    refine wpIn_cond_split hx (fun hb=>iht hB.1.2 Q fr σ (h.1 hb) a w hc Q' hq ro m) (fun hb=>ihe hB.2 Q fr σ (h.2 hb) a w hc Q' hq ro m)
   ·exact h.elim
 | block id c ih =>
   intro hB Q fr σ h a w hc Q' hq ro m
   refine wpIn_block (ih hB _ fr σ h a w hc _ (fun e fr' σ' a' w' q c' v=>?_) ro m)
   exact pB
 | loop c ih=>intro hB Q fr σ h;exact h
 | exit id=>intro _ Q fr σ h a w hc Q' hq ro m;exact wpIn_exit (hq _ _ _ _ _ h hc (Ev.refl _ _))
 | ret=>intro _ Q fr σ h a w hc Q' hq ro m;exact wpIn_ret (hq _ _ _ _ _ h hc (Ev.refl _ _))
 | goto l=>intro _ Q fr σ h a w hc Q' hq ro m;exact wpIn_goto (hq _ _ _ _ _ h hc (Ev.refl _ _))
 | label l=>intro _ Q fr σ h a w hc Q' hq ro m;exact wpIn_label (hq _ _ _ _ _ h hc (Ev.refl _ _))
 | rangeFunc f ps aS b _ _=>intro _ Q fr σ h;exact h.elim
 | scope c _=>intro _ Q fr σ h;exact h.elim
 | refuse why=>intro _ Q fr σ h;exact h.elim
end Go.Vx
end
