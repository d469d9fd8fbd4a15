/- Part Q09 of the proof of treeLooksProved: the walk of the program on abstract values, and the plain law. -/
import Derived.Test.YtmedmnondjmleaaGreatQ08
import Derived.Deep.LoopGhost
set_option linter.unusedVariables false
set_option linter.unusedSimpArgs false
section
namespace Go.Vx
open Go.RowKit
def I0 (k:(Exit→Fr→Store→Prop)→Fr→Store→Prop)(Q:Exit→Fr→Store→Prop)(fb:Bool)(fr:Fr)(d:Option Nat)(σ:Store):ZO→Store→Prop
 | .ret av,σ'=>(fb=true∨XS σ σ')∧k Q (fr.putO d av) σ'
 | .pan _,_=>False
def F0 (P:Program)(mu:List Nat)(k:(Exit→Fr→Store→Prop)→Fr→Store→Prop)(Q:Exit→Fr→Store→Prop)(fb:Bool)(σ:Store)(o:Oper):Fr→Prop :=
 fun fr=>ZB P (match o.dst with | some d=>mu.contains d | none=>false) fr.ev σ (I0 k Q fb fr o.dst σ) o.op
def Az (k:(Exit→Fr→Store→Prop)→Fr→Store→Prop)(Q:Exit→Fr→Store→Prop)(σ:Store)(d:Option Nat):Fr→Prop:=fun fr=>k Q (fr.putO d (.val undef)) σ
def Nj (ops:Array Oper)(s:Nat):Bool :=
 (ops.toList.take s).zipIdx.all fun p=>((Mf ops.toList []).getD s 0).testBit p.2 || S7 p.1.op
theorem He {ops:Array Oper}{s:Nat}(h:Nj ops s=true):∀ (i:Nat) (o:Oper),i<s→ops[i]?=some o→Bef ops i s∨S7 o.op=true:=by
 intro i o hi ho
 have hms:=Uu (ops:=ops) ops.toList [] (fun j=>by simp) (fun j k hk=>by simp at hk)
 have:(o,i)∈(ops.toList.take s).zipIdx:=by
  rw [List.mem_zipIdx_iff_getElem?,List.getElem?_take_of_lt hi];simpa using ho
 have:=List.all_eq_true.1 h _ this
 simp only [Bool.or_eq_true] at this
 exact this.imp (hms _ _) id
theorem OB {P:Program}{mu:List Nat}{ops:Array Oper}{s n:Nat}(hd:W4 ops (s+1))(hB:∀ o∈ops.toList,opB n o=true){ds:List Deferred}{σ:Store}{fr0 fr1:Fr}{pv:List AV}{e:Oper}(heo:ops[s]?=some e){fb:Bool}
 (hfb:fb=true→Nj ops s=true) (hT:HTr P ops σ (ops.toList.take s) fr0 pv fr1) {Q:Exit→Act→World→Prop} {R:Exit→Fr→Store→Prop} {w0:World}
 (hE:(gw ops e.guard fr1=some true∧AOp P e fr1.ev σ (I0 (Y7 P mu ops (ops.toList.drop (s+1))) R fb fr1 e.dst σ))∨(gw ops e.guard fr1=some false∧Y7 P mu ops (ops.toList.drop (s+1)) R (fr1.putO e.dst (.val undef)) σ))
 (hq:∀ e fr' σ' a' w',R e fr' σ'→Y4 n ds σ' fr' a' w'→Ev σ w0 σ' w'→Q e a' w') :
 ∀ (fuel:Nat) (ls:Array Bool) (a:Act) (w:World),Lst ops ls→(∀ j,s+1≤j→j<ops.size→ls.getD j false=false)→ls.getD s false=false→(List.range s).countP (fun i=>!ls.getD i false)+(ops.size-s)≤fuel →
   Y4 n ds σ (ZG (fun i=>ls.getD i false) ((ops.toList.take s).zip pv) 0 fr0) a w→Ev σ w0 σ w→wpAny P .any ops Q fuel ls a w:=by
 have hdst:∀ (j d:Nat),(ops[j]?).bind (·.dst)=some d→d<n:=YZ (List.all_eq_true.2 hB)
 have hlen:=hT.len
 have hdle:=hd.le
 have hsl:s<ops.size:=by omega
 have hzl:((ops.toList.take s).zip pv).length=s:=by
  rw [List.length_zip,hlen,Nat.min_self,List.length_take,Array.length_toList];omega
 have hzk:∀ (k:Nat) (p:Oper×AV),((ops.toList.take s).zip pv)[k]?=some p→k<s∧ops[k]?=some p.1:=by
  intro k p hk
  have hks:k<s:=by have:=(List.getElem?_eq_some_iff.1 hk).1;omega
  rw [List.getElem?_zip_eq_some,List.getElem?_take_of_lt hks] at hk
  exact ⟨hks,by simpa using hk.1⟩
 have hzk':∀ (k:Nat) (p:Oper×AV),((ops.toList.take s).zip pv)[k]?=some p→k<s+1∧ops[k]?=some p.1:=fun k p h=>⟨by have:=(hzk k p h).1;omega,(hzk k p h).2⟩
 have hfull:=hT.all 0
 have hat:∀ (i:Nat) (o:Oper) (v:AV),((ops.toList.take s).zip pv)[i]?=some (o,v)→let fi:=ZG (fun _=>true) (((ops.toList.take s).zip pv).take i) 0 fr0
  (gw ops o.guard fi=some true∧∀ σ',(S7 o.op=true∨XS σ σ')→AOp P o fi.ev σ' (Z8 v σ'))∨(gw ops o.guard fi=some false∧v=.val undef):=by
  intro i o v hz
  rw [List.getElem?_zip_eq_some] at hz
  exact hT.at_ i o v hz.1 hz.2 0
 generalize (ops.toList.take s).zip pv=Z at hzl hzk hzk' hfull hat
 have hheld:∀ σ',(fb=true∨XS σ σ')→bJ P ops s Z fr0 σ':=by
  intro σ' hs i o v hi hz hnb
  refine (hat i o v hz).imp (fun ⟨h1,h2⟩=>⟨h1,h2 σ' ?_⟩) id
  rcases hs with hs | hs
  ·rcases He (hfb hs) i o hi (hzk i _ hz).2 with h | h
   ·exact absurd h hnb
   ·exact .inl h
  ·exact .inr hs
 intro fuel
 induction fuel with
 | zero =>
   intro ls a w hl hge hns hf hc he
   omega
 | succ fuel ih =>
   intro ls a w hl hge hns hf hc he
   refine ⟨fun hr=>absurd hr (Wi hd hl hsl hns),fun i hi=>?_⟩
   obtain ⟨h1,h2,o,ho,h3⟩:=YW.1 hi
   have hs:i<ls.size:=by rw [hl.size];exact h1
   rw [X5 hs] at h2
   have him:i<s+1:=by
    apply Nat.lt_of_not_le
    intro hle
    have:=hl.bef_ready (hd.tail i s (by omega) h1 (by omega)) hi
    rw [hns] at this
    cases this
   have hoB:opB n o=true:=hB o (by rw [← Array.getElem?_toList] at ho;exact List.mem_of_getElem? ho)
   have hdo:=Xk hoB
   have agree:=VU (fr0:=fr0) hd hl hi him ho hzk' (by omega:i≤Z.length)
   by_cases hie:i=s
   ·subst hie
    rw [heo] at ho
    injection ho with ho
    subst ho
    rw [List.take_of_length_le (Nat.le_of_eq hzl),hfull] at agree
    have hls2:(ls.setIfInBounds i true).getD i false=true:=by rw [ZZ hs];simp
    have hge2:∀ j,i+1≤j→j<ops.size→(ls.setIfInBounds i true).getD j false=false:=fun j hj hjs=>by
     rw [ZZ hs,if_neg (by omega)];exact hge j hj hjs
    have hcnt:(List.range i).countP (fun k=>!(ls.setIfInBounds i true).getD k false)+(ops.size-(i+1))≤fuel:=by
     have:=Ou (p:=fun k=>!ls.getD k false) (q:=fun k=>!(ls.setIfInBounds i true).getD k false) (fun x hx=>by
      simp only [ZZ hs,Bool.not_eq_true'] at hx ⊢
      by_cases e:x=i
      ·rw [if_pos e] at hx;cases hx
      ·rwa [if_neg e] at hx) (List.range i)
     omega
    have hfd:ZG (fun k=>(ls.setIfInBounds i true).getD k false) Z 0 fr0=ZG (fun k=>ls.getD k false) Z 0 fr0:=by
     funext t
     refine Yb _ _ _ _ rfl (fun k p hk=>.inl ?_)
     refine iK ?_
     rw [ZZ hs,if_neg (by have:=(hzk k p hk).1;omega)]
    have nx:∀ av σ' a' w',(fb=true∨XS σ σ')→Y7 P mu ops (ops.toList.drop (i+1)) R (fr1.putO e.dst av) σ'→Y4 n ds σ' ((ZG (fun k=>ls.getD k false) Z 0 fr0).putO e.dst av) a' w'→Ev σ w0 σ' w'→wpAny P .any ops Q fuel (ls.setIfInBounds i true) a' w':=by
     intro av σ' a' w' hfs hk hc' he'
     refine NN hd hB heo hzl hzk hfull (hheld σ' hfs) (fun a2 w2 hc2 he2=>W2 (YZ (List.all_eq_true.2 hB)) _ (fun o ho=>hB o (List.mem_of_mem_drop ho)) _ σ' a2 w2 hk hc2 (fun e fr' σ2 a3 w3 q c v=>hq e fr' σ2 a3 w3 q c (he2.trans v))) fuel _ a' w' (hl.set hi) hge2 hls2 hcnt ?_ he'
     rw [hfd];exact hc'
    unfold wpOp
    simp only [heo]
    rcases hE with ⟨hg,hop⟩ | ⟨hg,hk⟩
    ·rw [XN agree] at hg
     have hw:=Xy (P:=P) hg hc.fr.size (fun j want d _ hd=>⟨hdst j d hd,hc.fr.slot d (hdst j d hd)⟩)
     rw [if_pos hw]
     refine .inl ((hop.congr (WY agree)) a w hc.ok (fun x hx=>hc.fr.operand (Wj hoB x hx)) _ Q (fun av σ' u w' hk hu hs' he'=>?_) (fun pv σ2 w' hk _ _=>hk.elim))
     exact nx av σ' _ _ hk.1 hk.2 ⟨by rw [ZI];exact hc.defers,(hc.fr.ev he').put hdo hu,hs'⟩ (he.trans he')
    ·rw [XN agree] at hg
     have hw:=Xy (P:=P) hg hc.fr.size (fun j want d _ hd=>⟨hdst j d hd,hc.fr.slot d (hdst j d hd)⟩)
     rw [if_neg (by rw [hw];exact Bool.false_ne_true)]
     exact nx _ σ _ _ (.inr (.refl σ)) hk ⟨by rw [ZI];exact hc.defers,hc.fr.put hdo (.val undef),hc.ok⟩ he
   ·have hlt:i<s:=by omega
    have hz:Z[i]?=some Z[i]:=List.getElem?_eq_getElem (by omega)
    have hoz:=(hzk i _ hz).2
    generalize Z[i]=p at hz hoz
    obtain ⟨o',v⟩:=p
    rw [ho] at hoz
    injection hoz with hoz
    simp only at hoz
    subst hoz
    have hb:=hat i o v hz
    simp only at hb
    have hup:=TY (fr0:=fr0) hd hl hi him ho hzk' hz
    have hcnt:(List.range s).countP (fun k=>!(ls.setIfInBounds i true).getD k false)+(ops.size-s)≤fuel:=by
     have:=RG (s:=s) hs h2 hlt
     omega
    have hge2:∀ j,s+1≤j→j<ops.size→(ls.setIfInBounds i true).getD j false=false:=fun j hj hjs=>by
     rw [ZZ hs,if_neg (by omega)];exact hge j hj hjs
    have hsl2:(ls.setIfInBounds i true).getD s false=false:=by rw [ZZ hs,if_neg (by omega)];exact hns
    have nx:∀ a' w',Y4 n ds σ ((ZG (fun k=>ls.getD k false) Z 0 fr0).putO o.dst v) a' w'→Ev σ w0 σ w'→wpAny P .any ops Q fuel (ls.setIfInBounds i true) a' w':=by
     intro a' w' hc' he'
     refine ih _ a' w' (hl.set hi) hge2 hsl2 hcnt ?_ he'
     rw [hup]
     exact hc'
    unfold wpOp
    simp only [ho]
    rcases hb with ⟨hg,hop⟩ | ⟨hg,hvu⟩
    ·rw [XN agree] at hg
     have hw:=Xy (P:=P) hg hc.fr.size (fun j want d _ hd=>⟨hdst j d hd,hc.fr.slot d (hdst j d hd)⟩)
     rw [if_pos hw]
     refine .inl (((hop σ (.inr (.refl σ))).congr (WY agree)) a w hc.ok (fun x hx=>hc.fr.operand (Wj hoB x hx)) _ Q (fun av' σ2 u w' hk hu hs' he'=>?_) (fun pv σ2 w' hk _ _=>?_))
     ·obtain ⟨hk,rfl⟩:=hk
      injection hk with hk
      subst hk
      exact nx _ _ ⟨by rw [ZI];exact hc.defers,(hc.fr.ev he').put hdo hu,hs'⟩ (he.trans he')
     ·exact absurd hk.1 (by simp)
    ·rw [XN agree] at hg
     have hw:=Xy (P:=P) hg hc.fr.size (fun j want d _ hd=>⟨hdst j d hd,hc.fr.slot d (hdst j d hd)⟩)
     rw [if_neg (by rw [hw];exact Bool.false_ne_true)]
     subst hvu
     exact nx _ _ ⟨by rw [ZI];exact hc.defers,hc.fr.put hdo (.val undef),hc.ok⟩ he
def Lb (P:Program)(mu:List Nat)(ops:Array Oper)(fb:Bool)(Q:Exit→Fr→Store→Prop)(σ:Store):List Oper→Fr→Prop
 | [],fr=>Q .normal fr σ
 | e::r,fr=>XJ ops e.guard fr (F0 P mu (Y7 P mu ops r) Q fb σ e) (Az (Y7 P mu ops r) Q σ e.dst)
def Qu (P:Program)(mu:List Nat)(ops:Array Oper)(Q:Exit→Fr→Store→Prop)(σ:Store)(l:List Oper):Nat→Fr→Prop
 | 0,fr=>Y7 P mu ops l Q fr σ
 | 1,fr=>Lb P mu ops false Q σ l fr
 | _,fr=>Lb P mu ops true Q σ l fr
def ahd (P:Program)(mu:List Nat)(ops:Array Oper)(Q:Exit→Fr→Store→Prop)(σ:Store)(k:Nat):Nat→List Oper→Fr→Prop
 | 0,l,fr=>Qu P mu ops Q σ l k fr
 | m+1,[],fr=>False
 | m+1,o::r,fr=>XJ ops o.guard fr (Cv P (ahd P mu ops Q σ k m r) σ o) (JM (ahd P mu ops Q σ k m r) o.dst)
theorem UW {P:Program}{mu:List Nat}{ops:Array Oper}{Q:Exit→Fr→Store→Prop}{σ:Store}{k:Nat}:∀ (m:Nat) (l:List Oper),ahd P mu ops Q σ k m l=if m≤l.length then ahead P ops σ (Qu P mu ops Q σ (l.drop m) k) (l.take m) else ahd P mu ops Q σ k m l:=by
 intro m
 induction m with
 | zero=>intro l;rfl
 | succ m ih =>
   intro l
   cases l with
   | nil=>rfl
   | cons o r =>
     by_cases h:m≤r.length
     ·have e:=ih r
      rw [if_pos h] at e
      rw [if_pos (by simpa using h)]
      funext fr
      simp only [ahd,List.take_succ_cons,List.drop_succ_cons,ahead]
      rw [e]
     ·rw [if_neg (by simpa using h)]
def Rn:List (Nat×Nat×Nat)→Nat→Nat×Nat
 | [],_=>(0,0)
 | (i,m,k)::r,id=>if i=id then (m,k) else Rn r id
theorem MA {ops:Array Oper}:Lst ops (Array.replicate ops.size false):=⟨by simp,fun i o e ho hi=>by rw [getD_none] at hi;cases hi⟩
theorem MB (s n:Nat):(List.range s).countP (fun i=>!(Array.replicate n false).getD i false)≤s:=by
 have:=List.countP_le_length (p:=fun i=>!(Array.replicate n false).getD i false) (l:=List.range s)
 simpa using this
theorem Oh (n:Nat)(l:List (Oper×AV))(fr:Fr):ZG (fun i=>(Array.replicate n false).getD i false) l 0 fr=fr:=by
 have e1:(fun i=>(Array.replicate n false).getD i false)=fun _=>false:=by funext i;exact getD_none _ _
 rw [e1,Xz]
theorem JZ {P:Program}{n:Nat}{ds:List Deferred}{mu:List Nat}{id:Nat}{ops:Array Oper}{Q:Exit→Fr→Store→Prop}{fr:Fr}{σ:Store}{fb:Bool}{m:Nat}(hm:P.follows .mixedOrders=true)(hB:ops.toList.all (opB n)=true)
 (hc:T0 ops (m+1)=true) (hf:fb=true→Nj ops m=true) (h:ahead P ops σ (Lb P mu ops fb Q σ (ops.toList.drop m)) (ops.toList.take m) fr):AWp P n ds (.region id ops true) Q fr σ:=by
 intro a w hcf Q' hq
 obtain ⟨pv,fr1,hT,hrest⟩:=UI _ _ h
 have hd:=VC hc
 have hBl:=List.all_eq_true.1 hB
 have hev:=Ev.drew σ w
 have hle:=hd.le
 have hms:m<ops.size:=by omega
 have heo:ops[m]?=some ops[m]:=Array.getElem?_eq_getElem hms
 have hdr:ops.toList.drop m=ops[m]::ops.toList.drop (m+1):=by
  rw [List.drop_eq_getElem_cons (by simpa using hms)];rfl
 generalize ops[m]=e at heo hdr
 rw [hdr] at hrest
 simp only [Lb] at hrest
 refine wp_region_any hm (OB (mu:=mu) (fb:=fb) (R:=Q) hd hBl heo hf hT (w0:=w) ?_ hq ops.size _ a _ MA (fun j _ _=>getD_none _ _) (getD_none _ _) ?_ ?_ hev)
 ·rcases Oy hrest with ⟨hg,hx⟩ | ⟨hg,hx⟩
  ·exact .inl ⟨hg,Xi hx⟩
  ·exact .inr ⟨hg,hx⟩
 ·have:=MB m ops.size
  omega
 ·rw [Oh];exact ⟨hcf.defers,hcf.fr.ev hev,hcf.ok.drew⟩
def An (P:Program)(O:Store→Prop)(fr:Fr)(op:Op)(v:AV):Store→Prop:=fun σ'=>O σ'∧ZL P fr.ev σ' (fun u=>u=v) op
def kOb (P:Program)(k:(Store→Prop)→Fr→Prop)(O:Store→Prop)(fr:Fr)(d:Option Nat)(op:Op):AV→Prop:=fun v=>k (An P O fr op v) (fr.putO d v)
def Kg (P:Program)(mu:List Nat)(ops:Array Oper)(Q:Exit→Fr→Store→Prop)(O:Store→Prop)(m:Nat)(r:List Oper)(fr:Fr)(d:Option Nat):ZO→Store→Prop
 | .ret av,σ'=>O σ'∧ahd P mu ops Q σ' 0 m r (fr.putO d av)
 | .pan pv,σ'=>∀ fr',Q (.panic [{ v:=pv,recovered:=false }]) fr' σ'
def Rr (P:Program)(mu:List Nat)(ops:Array Oper)(Q:Exit→Fr→Store→Prop)(σ:Store)(m:Nat):Nat→List Oper→(Store→Prop)→Fr→Prop
 | _,[],_,_=>False
 | 0,e::r,O,fr=>e.guard=none∧ZB P (match e.dst with | some d=>mu.contains d | none=>false) fr.ev σ (Kg P mu ops Q O m r fr e.dst) e.op
 | s+1,o::r,O,fr=>o.guard=none∧ZL P fr.ev σ (kOb P (Rr P mu ops Q σ m s r) O fr o.dst o.op) o.op
inductive HTp (P:Program) (σ:Store):List Oper→Fr→List AV→Fr→Prop where
 | nil (fr:Fr):HTp P σ [] fr [] fr
 | cons (o:Oper) (r:List Oper) (fr fr':Fr) (v:AV) (vs:List AV) (hg:o.guard=none) (h:AOp P o fr.ev σ (Z8 v σ)) (t:HTp P σ r (fr.putO o.dst v) vs fr'):HTp P σ (o::r) fr (v::vs) fr'
theorem HTp.len {P:Program}{σ:Store}{l:List Oper}{fr fr':Fr}{vs:List AV}(h:HTp P σ l fr vs fr'):vs.length=l.length:=by
 induction h with
 | nil=>rfl
 | cons _ _ _ _ _ _ _ _ _ ih=>simp [ih]
theorem HTp.all {P:Program}{σ:Store}{l:List Oper}{fr fr':Fr}{vs:List AV}(h:HTp P σ l fr vs fr'):∀ s,ZG (fun _=>true) (l.zip vs) s fr=fr':=by
 induction h with
 | nil=>intro s;rfl
 | cons _ _ _ _ _ _ _ _ _ ih=>intro s;simp only [List.zip_cons_cons,ZG,if_true];exact ih _
theorem HTp.at_ {P:Program}{σ:Store}{l:List Oper}{fr fr':Fr}{vs:List AV}(h:HTp P σ l fr vs fr'):∀ (i:Nat) (o:Oper) (v:AV),l[i]?=some o→vs[i]?=some v→∀ s,
 o.guard=none∧AOp P o (ZG (fun _=>true) ((l.zip vs).take i) s fr).ev σ (Z8 v σ):=by
 induction h with
 | nil=>intro i o v ho;simp at ho
 | cons o r fr fr' v vs hg h t ih =>
   intro i p u hp hu s
   cases i with
   | zero=>simp at hp hu;subst hp;subst hu;exact ⟨hg,h⟩
   | succ i=>simp only [List.zip_cons_cons,List.take_succ_cons,ZG,if_true];exact ih i p u (by simpa using hp) (by simpa using hu) _
theorem C4 {P:Program}{mu:List Nat}{ops:Array Oper}{Q:Exit→Fr→Store→Prop}{σ:Store}{m:Nat}:∀ (s:Nat) (l:List Oper) (O:Store→Prop) (fr:Fr),Rr P mu ops Q σ m s l O fr →
 ∃ pv fr1 e O1,l[s]?=some e∧e.guard=none∧HTp P σ (l.take s) fr pv fr1∧ZB P (match e.dst with | some d=>mu.contains d | none=>false) fr1.ev σ (Kg P mu ops Q O1 m (l.drop (s+1)) fr1 e.dst) e.op∧∀ σ',O1 σ'→O σ'∧HTp P σ' (l.take s) fr pv fr1:=by
 intro s
 induction s with
 | zero =>
   intro l O fr h
   cases l with
   | nil=>exact h.elim
   | cons e r=>exact ⟨[],fr,e,O,rfl,h.1,.nil _,h.2,fun σ' ho=>⟨ho,.nil _⟩⟩
 | succ s ih =>
   intro l O fr h
   cases l with
   | nil=>exact h.elim
   | cons o r =>
     obtain ⟨hg,h⟩:=h
     obtain ⟨v,hk,hop⟩:=Us h
     obtain ⟨pv,fr1,e,O1,h1,h2,h3,h4,h5⟩:=ih r _ _ hk
     refine ⟨v::pv,fr1,e,O1,by simpa using h1,h2,.cons o _ fr fr1 v pv hg hop h3,by simpa using h4,fun σ' ho=>?_⟩
     obtain ⟨⟨ho1,ho2⟩,h6⟩:=h5 σ' ho
     obtain ⟨u,rfl,hu⟩:=Us ho2
     exact ⟨ho1,.cons o _ fr fr1 u pv hg hu h6⟩
theorem Lr {P:Program}{ops:Array Oper}{m s n:Nat}(hd:W4 ops m)(hB:∀ o∈ops.toList,opB n o=true){ds:List Deferred}{σ':Store}{fr0 fr1:Fr}{Z:List (Oper×AV)}(hzl:Z.length=m)
 (hzk:∀ (k:Nat) (p:Oper×AV),Z[k]?=some p→k<m∧ops[k]?=some p.1) (hfull:ZG (fun _=>true) Z 0 fr0=fr1) {Q:Exit→Act→World→Prop} {w0:World} {σ:Store}
 (hH:∀ (i:Nat) (o:Oper) (v:AV),Z[i]?=some (o,v)→i≠s→(gw ops o.guard (ZG (fun _=>true) (Z.take i) 0 fr0)=some true∧AOp P o (ZG (fun _=>true) (Z.take i) 0 fr0).ev σ' (Z8 v σ'))∨(gw ops o.guard (ZG (fun _=>true) (Z.take i) 0 fr0)=some false∧v=.val undef))
 (hrest:∀ a w,Y4 n ds σ' fr1 a w→Ev σ w0 σ' w→wpList P ops Q (ops.toList.drop m) a w) :
 ∀ (fuel:Nat) (ls:Array Bool) (a:Act) (w:World),Lst ops ls→(∀ j,m≤j→j<ops.size→ls.getD j false=false)→ls.getD s false=true→(List.range m).countP (fun i=>!ls.getD i false)+(ops.size-m)≤fuel →
   Y4 n ds σ' (ZG (fun i=>ls.getD i false) Z 0 fr0) a w→Ev σ w0 σ' w→wpAny P .any ops Q fuel ls a w:=by
 have hdst:∀ (j d:Nat),(ops[j]?).bind (·.dst)=some d→d<n:=YZ (List.all_eq_true.2 hB)
 have full:∀ (fuel:Nat) (ls:Array Bool) (a:Act) (w:World),Lst ops ls→(∀ j,m≤j→j<ops.size→ls.getD j false=false)→(∀ j,j<m→ls.getD j false=true)→ops.size≤m+fuel →
  Y4 n ds σ' (ZG (fun i=>ls.getD i false) Z 0 fr0) a w→Ev σ w0 σ' w→wpAny P .any ops Q fuel ls a w:=by
  intro fuel ls a w hl hge hlt hf hc he
  have e1:ZG (fun i=>ls.getD i false) Z 0 fr0=fr1:=by
   rw [← hfull]
   funext t
   refine Yb _ _ _ _ rfl (fun k p hk=>.inl ?_)
   refine iK ?_
   exact hlt k (hzk k p hk).1
  rw [e1] at hc
  refine Tg hd fuel m ls a w (Nat.le_refl _) hl (fun j hj=>⟨fun h=>?_,fun h=>hlt j h⟩) hf (hrest a w hc he)
  apply Nat.lt_of_not_le
  intro hle
  rw [hge j hle hj] at h
  cases h
 intro fuel
 induction fuel with
 | zero =>
   intro ls a w hl hge hsl hf hc he
   refine full 0 ls a w hl hge (fun j hj=>?_) (by omega) hc he
   have h0:(List.range m).countP (fun i=>!ls.getD i false)=0:=by omega
   rw [List.countP_eq_zero] at h0
   have:=h0 j (List.mem_range.2 hj)
   simpa using this
 | succ fuel ih =>
   intro ls a w hl hge hsl hf hc he
   by_cases hall:∀ j,j<m→ls.getD j false=true
   ·exact full (fuel+1) ls a w hl hge hall (by omega) hc he
   ·have:∃ j,j<m∧ls.getD j false=false:=by
     apply Classical.byContradiction
     intro hn
     apply hall
     intro j hj
     cases hv:ls.getD j false with
     | true=>rfl
     | false=>exact absurd ⟨j,hj,hv⟩ hn
    obtain ⟨j0,hj0,hl0⟩:=this
    refine ⟨fun hr=>absurd hr (Wi hd hl (Nat.lt_of_lt_of_le hj0 hd.le) hl0),fun i hi=>?_⟩
    obtain ⟨h1,h2,o,ho,h3⟩:=YW.1 hi
    have hs:i<ls.size:=by rw [hl.size];exact h1
    rw [X5 hs] at h2
    have hne:i≠s:=by intro e;rw [e,hsl] at h2;cases h2
    have him:i<m:=by
     apply Nat.lt_of_not_le
     intro hle
     have:=hl.bef_ready (hd.tail i j0 hle h1 (by omega)) hi
     rw [hl0] at this
     cases this
    have hoB:opB n o=true:=hB o (by rw [← Array.getElem?_toList] at ho;exact List.mem_of_getElem? ho)
    have hz:Z[i]?=some Z[i]:=List.getElem?_eq_getElem (by omega)
    have hoz:=(hzk i _ hz).2
    generalize Z[i]=p at hz hoz
    obtain ⟨o',v⟩:=p
    rw [ho] at hoz
    injection hoz with hoz
    simp only at hoz
    subst hoz
    have hb:=hH i o v hz hne
    have agree:=VU (fr0:=fr0) hd hl hi him ho hzk (by omega:i≤Z.length)
    have hup:=TY (fr0:=fr0) hd hl hi him ho hzk hz
    have hcnt:(List.range m).countP (fun k=>!(ls.setIfInBounds i true).getD k false)+(ops.size-m)≤fuel:=by
     have:=RG (s:=m) hs h2 him
     omega
    have hge2:∀ j,m≤j→j<ops.size→(ls.setIfInBounds i true).getD j false=false:=fun j hj hjs=>by
     rw [ZZ hs,if_neg (by omega)];exact hge j hj hjs
    have hsl2:(ls.setIfInBounds i true).getD s false=true:=by rw [ZZ hs,if_neg (Ne.symm hne)];exact hsl
    have hdo:=Xk hoB
    unfold wpOp
    simp only [ho]
    have nx:∀ a' w',Y4 n ds σ' ((ZG (fun k=>ls.getD k false) Z 0 fr0).putO o.dst v) a' w'→Ev σ w0 σ' w'→wpAny P .any ops Q fuel (ls.setIfInBounds i true) a' w':=by
     intro a' w' hc' he'
     refine ih _ a' w' (hl.set hi) hge2 hsl2 hcnt ?_ he'
     rw [hup]
     exact hc'
    rcases hb with ⟨hg,hop⟩ | ⟨hg,hvu⟩
    ·rw [XN agree] at hg
     have hw:=Xy (P:=P) hg hc.fr.size (fun j want d _ hd=>⟨hdst j d hd,hc.fr.slot d (hdst j d hd)⟩)
     rw [if_pos hw]
     refine .inl ((hop.congr (WY agree)) a w hc.ok (fun x hx=>hc.fr.operand (Wj hoB x hx)) _ Q (fun av' σ2 u w' hk hu hs' he'=>?_) (fun pv σ2 w' hk _ _=>?_))
     ·obtain ⟨hk,rfl⟩:=hk
      injection hk with hk
      subst hk
      exact nx _ _ ⟨by rw [ZI];exact hc.defers,(hc.fr.ev he').put hdo hu,hs'⟩ (he.trans he')
     ·exact absurd hk.1 (by simp)
    ·rw [XN agree] at hg
     have hw:=Xy (P:=P) hg hc.fr.size (fun j want d _ hd=>⟨hdst j d hd,hc.fr.slot d (hdst j d hd)⟩)
     rw [if_neg (by rw [hw];exact Bool.false_ne_true)]
     subst hvu
     exact nx _ _ ⟨by rw [ZI];exact hc.defers,hc.fr.put hdo (.val undef),hc.ok⟩ he
def Ar (ops:Array Oper)(s m:Nat):Bool:=(List.range m).all fun i=>decide (i≤s) || ((Mf ops.toList []).getD i 0).testBit s
theorem Cf {ops:Array Oper}{s m:Nat}(h:Ar ops s m=true):∀ i,s<i→i<m→Bef ops s i:=by
 intro i h1 h2
 have hms:=Uu (ops:=ops) ops.toList [] (fun j=>by simp) (fun j k hk=>by simp at hk)
 have:=List.all_eq_true.1 h i (List.mem_range.2 h2)
 simp only [Bool.or_eq_true,decide_eq_true_eq] at this
 exact hms _ _ (this.resolve_left (by omega))
theorem Ls {P:Program}{mu:List Nat}{ops:Array Oper}{s m n:Nat}(hd:W4 ops m)(hsm:s<m)(hmid:∀ i,s<i→i<m→Bef ops s i)(hB:∀ o∈ops.toList,opB n o=true){ds:List Deferred}{σ:Store}{fr0 fr1:Fr}{pv:List AV}{e:Oper}(heo:ops[s]?=some e)(heg:e.guard=none)
 (hT:HTp P σ (ops.toList.take s) fr0 pv fr1) {Q:Exit→Act→World→Prop} {R:Exit→Fr→Store→Prop} {w0:World} {O:Store→Prop} (hO:∀ σ',O σ'→HTp P σ' (ops.toList.take s) fr0 pv fr1)
 (hE:AOp P e fr1.ev σ (Kg P mu ops R O (m-s-1) (ops.toList.drop (s+1)) fr1 e.dst))
 (hq:∀ e fr' σ' a' w',R e fr' σ'→Y4 n ds σ' fr' a' w'→Ev σ w0 σ' w'→Q e a' w') :
 ∀ (fuel:Nat) (ls:Array Bool) (a:Act) (w:World),Lst ops ls→(∀ j,m≤j→j<ops.size→ls.getD j false=false)→ls.getD s false=false→(List.range m).countP (fun i=>!ls.getD i false)+(ops.size-m)≤fuel →
   Y4 n ds σ (ZG (fun i=>ls.getD i false) ((ops.toList.take s).zip pv) 0 fr0) a w→Ev σ w0 σ w→wpAny P .any ops Q fuel ls a w:=by
 have hdst:∀ (j d:Nat),(ops[j]?).bind (·.dst)=some d→d<n:=YZ (List.all_eq_true.2 hB)
 have hlen:=hT.len
 have hdle:=hd.le
 have hsl:s<ops.size:=by omega
 obtain ⟨Z,hZ⟩:∃ Z,Z=(ops.toList.take s).zip pv:=⟨_,rfl⟩
 have hzl:Z.length=s:=by rw [hZ,List.length_zip,hlen,Nat.min_self,List.length_take,Array.length_toList];omega
 have hzk:∀ (k:Nat) (p:Oper×AV),Z[k]?=some p→k<s∧ops[k]?=some p.1:=by
  intro k p hk
  have hks:k<s:=by have:=(List.getElem?_eq_some_iff.1 hk).1;omega
  rw [hZ,List.getElem?_zip_eq_some,List.getElem?_take_of_lt hks] at hk
  exact ⟨hks,by simpa using hk.1⟩
 have hzk':∀ (k:Nat) (p:Oper×AV),Z[k]?=some p→k<m∧ops[k]?=some p.1:=fun k p h=>⟨by have:=(hzk k p h).1;omega,(hzk k p h).2⟩
 have hfull:ZG (fun _=>true) Z 0 fr0=fr1:=by rw [hZ];exact hT.all 0
 have hat:∀ (σ':Store),HTp P σ' (ops.toList.take s) fr0 pv fr1→∀ (i:Nat) (o:Oper) (v:AV),Z[i]?=some (o,v)→o.guard=none∧AOp P o (ZG (fun _=>true) (Z.take i) 0 fr0).ev σ' (Z8 v σ'):=by
  intro σ' hT' i o v hz
  rw [hZ] at hz ⊢
  rw [List.getElem?_zip_eq_some] at hz
  exact hT'.at_ i o v hz.1 hz.2 0
 rw [← hZ]
 intro fuel
 induction fuel with
 | zero =>
   intro ls a w hl hge hns hf hc he
   have:0<(List.range m).countP (fun i=>!ls.getD i false):=List.countP_pos_iff.2 ⟨s,List.mem_range.2 hsm,by simp [hns]⟩
   omega
 | succ fuel ih =>
   intro ls a w hl hge hns hf hc he
   refine ⟨fun hr=>absurd hr (Wi hd hl hsl hns),fun i hi=>?_⟩
   obtain ⟨h1,h2,o,ho,h3⟩:=YW.1 hi
   have hs:i<ls.size:=by rw [hl.size];exact h1
   rw [X5 hs] at h2
   have him:i<s+1:=by
    apply Nat.lt_of_not_le
    intro hle
    have hb:Bef ops s i:=by
     by_cases hm:i<m
     ·exact hmid i (by omega) hm
     ·exact hd.tail i s (by omega) h1 (by omega)
    have:=hl.bef_ready hb hi
    rw [hns] at this
    cases this
   have hoB:opB n o=true:=hB o (by rw [← Array.getElem?_toList] at ho;exact List.mem_of_getElem? ho)
   have hdo:=Xk hoB
   have agree:=VU (fr0:=fr0) hd hl hi (by omega) ho hzk' (by omega:i≤Z.length)
   have hcnt:(List.range m).countP (fun k=>!(ls.setIfInBounds i true).getD k false)+(ops.size-m)≤fuel:=by
    have:=RG (s:=m) hs h2 (by omega)
    omega
   have hge2:∀ j,m≤j→j<ops.size→(ls.setIfInBounds i true).getD j false=false:=fun j hj hjs=>by
    rw [ZZ hs,if_neg (by omega)];exact hge j hj hjs
   have guardless:∀ (o:Oper),o.guard=none→Region.wanted o (yielded ops a.tmps)=true:=fun o hg =>
    Xy (P:=P) (o:=o) (ops:=ops) (fr:=ZG (fun i=>ls.getD i false) Z 0 fr0) (b:=true) (L:=live σ) (w:=w) (by rw [hg];rfl) hc.fr.size (fun j want d hgg _=>by rw [hg] at hgg;cases hgg)
   by_cases hie:i=s
   ·subst hie
    rw [heo] at ho
    injection ho with ho
    subst ho
    rw [List.take_of_length_le (Nat.le_of_eq hzl),hfull] at agree
    have hls2:(ls.setIfInBounds i true).getD i false=true:=by rw [ZZ hs];simp
    unfold wpOp
    simp only [heo]
    rw [if_pos (guardless e heg)]
    refine .inl ((hE.congr (WY agree)) a w hc.ok (fun x hx=>hc.fr.operand (Wj hoB x hx)) _ Q (fun av σ' u w' hk hu hs' he'=>?_) (fun pv σ2 w' hk hs' he'=>?_))
    ·obtain ⟨hk1,hk2⟩:=hk
     have hT':=hO σ' hk1
     have hlr:m-i-1≤(ops.toList.drop (i+1)).length:=by rw [List.length_drop,Array.length_toList];omega
     rw [UW,if_pos hlr] at hk2
     obtain ⟨pv2,fr2,hT2,hrest⟩:=UI _ _ hk2
     have hl2:=hT2.len
     obtain ⟨Y,hY⟩:∃ Y,Y=((ops.toList.drop (i+1)).take (m-i-1)).zip pv2:=⟨_,rfl⟩
     have hyl:Y.length=m-i-1:=by rw [hY,List.length_zip,hl2,Nat.min_self,List.length_take,List.length_drop,Array.length_toList];omega
     have hyk:∀ (k:Nat) (p:Oper×AV),Y[k]?=some p→k<m-i-1∧ops[i+1+k]?=some p.1:=by
      intro k p hk
      have hks:k<m-i-1:=by have:=(List.getElem?_eq_some_iff.1 hk).1;omega
      rw [hY,List.getElem?_zip_eq_some,List.getElem?_take_of_lt hks,List.getElem?_drop] at hk
      exact ⟨hks,by simpa using hk.1⟩
     have hzl2:(Z++(e,av)::Y).length=m:=by rw [List.length_append,List.length_cons,hzl,hyl];omega
     have hidx:∀ (k:Nat) (p:Oper×AV),(Z++(e,av)::Y)[k]?=some p→(k<i∧Z[k]?=some p)∨(k=i∧p=(e,av))∨(∃ j,k=i+1+j∧Y[j]?=some p):=by
      intro k p hk
      by_cases h:k<i
      ·rw [List.getElem?_append_left (by omega)] at hk;exact .inl ⟨h,hk⟩
      ·rw [List.getElem?_append_right (by omega),hzl] at hk
       by_cases h2:k=i
       ·subst h2;simp at hk;exact .inr (.inl ⟨rfl,hk.symm⟩)
       ·obtain ⟨j,rfl⟩:∃ j,k=i+1+j:=⟨k-i-1,by omega⟩
        rw [show i+1+j-i=j+1 by omega,List.getElem?_cons_succ] at hk
        exact .inr (.inr ⟨j,rfl,hk⟩)
     have fold2:ZG (fun _=>true) (Z++(e,av)::Y) 0 fr0=fr2:=by
      rw [Xm,hfull,hzl,ZG]
      simp only [if_true]
      rw [hY];exact hT2.all _
     refine Lr (ds:=ds) (s:=i) hd hB hzl2 (fun k p hk=>?_) fold2 (fun k o v hk hne=>?_) (fun a2 w2 hc2 he2=>?_) fuel _ _ w' (hl.set hi) hge2 hls2 hcnt ?_ (he.trans he')
     ·rcases hidx k p hk with ⟨h1,h2⟩ | ⟨rfl,rfl⟩ | ⟨j,rfl,h2⟩
      ·exact hzk' k p h2
      ·exact ⟨by omega,heo⟩
      ·obtain ⟨h3,h4⟩:=hyk j p h2;exact ⟨by omega,h4⟩
     ·rcases hidx k (o,v) hk with ⟨h1,h2⟩ | ⟨rfl,_⟩ | ⟨j,rfl,h2⟩
      ·have:=hat σ' hT' k o v h2
       rw [List.take_append_of_le_length (by omega)]
       exact .inl ⟨by rw [this.1];rfl,this.2⟩
      ·exact absurd rfl hne
      ·obtain ⟨h3,h4⟩:=hyk j _ h2
       rw [hY,List.getElem?_zip_eq_some] at h2
       have:=hT2.at_ j o v h2.1 h2.2 (i+1)
       simp only at this
       have htk:(Z++(e,av)::Y).take (i+1+j)=Z++(e,av)::Y.take j:=by
        rw [List.take_append,hzl,List.take_of_length_le (by omega),show i+1+j-i=j+1 by omega,List.take_succ_cons]
       rw [htk,Xm,hfull,hzl,ZG]
       simp only [if_true,Nat.zero_add]
       rw [hY]
       exact this.imp (fun ⟨h1,h2⟩=>⟨h1,h2 σ' (.inr (.refl _))⟩) id
     ·have hdr:(ops.toList.drop (i+1)).drop (m-i-1)=ops.toList.drop m:=by rw [List.drop_drop];congr 1;omega
      simp only [Qu] at hrest
      rw [hdr] at hrest
      exact W2 (YZ (List.all_eq_true.2 hB)) _ (fun o ho=>hB o (List.mem_of_mem_drop ho)) _ σ' a2 w2 hrest hc2 (fun e fr' σ2 a3 w3 q c v=>hq e fr' σ2 a3 w3 q c (he2.trans v))
     ·have e1:ZG (fun k=>(ls.setIfInBounds i true).getD k false) (Z++(e,av)::Y) 0 fr0=(ZG (fun k=>ls.getD k false) Z 0 fr0).putO e.dst av:=by
       rw [Xm,hzl,ZG]
       simp only [Nat.zero_add,hls2,if_true]
       have e2:ZG (fun k=>(ls.setIfInBounds i true).getD k false) Z 0 fr0=ZG (fun k=>ls.getD k false) Z 0 fr0:=by
        funext t
        refine Yb _ _ _ _ rfl (fun k p hk=>.inl ?_)
        refine iK ?_
        rw [ZZ hs,if_neg (by have:=(hzk k p hk).1;omega)]
       rw [e2]
       funext t
       have:=Yb (D:=fun k=>(ls.setIfInBounds i true).getD k false) (D':=fun _=>false) (t:=t) Y (i+1) ((ZG (fun k=>ls.getD k false) Z 0 fr0).putO e.dst av) _ rfl (fun k p hk=>.inl (by
        obtain ⟨h3,h4⟩:=hyk k p hk
        rw [ZZ hs,if_neg (by omega)]
        cases hv:ls.getD (i+1+k) false with
        | false=>rfl
        | true=>rw [hl.bef (hmid (i+1+k) (by omega) (by omega)) hv] at hns;cases hns))
       rw [this,Xz]
      rw [e1]
      exact ⟨by rw [ZI];exact hc.defers,(hc.fr.ev he').put hdo hu,hs'⟩
    ·exact hq _ _ _ _ _ (hk (ZG (fun i=>ls.getD i false) Z 0 fr0)) ⟨hc.defers,hc.fr.ev he',hs'⟩ (he.trans he')
   ·have hlt:i<s:=by omega
    have hz:Z[i]?=some Z[i]:=List.getElem?_eq_getElem (by omega)
    have hoz:=(hzk i _ hz).2
    generalize Z[i]=p at hz hoz
    obtain ⟨o',v⟩:=p
    rw [ho] at hoz
    injection hoz with hoz
    simp only at hoz
    subst hoz
    obtain ⟨hg,hop⟩:=hat σ hT i o v hz
    have hup:=TY (fr0:=fr0) hd hl hi (by omega) ho hzk' hz
    have hsl2:(ls.setIfInBounds i true).getD s false=false:=by rw [ZZ hs,if_neg (by omega)];exact hns
    unfold wpOp
    simp only [ho]
    rw [if_pos (guardless o hg)]
    refine .inl ((hop.congr (WY agree)) a w hc.ok (fun x hx=>hc.fr.operand (Wj hoB x hx)) _ Q (fun av' σ2 u w' hk hu hs' he'=>?_) (fun pv σ2 w' hk _ _=>?_))
    ·obtain ⟨hk,rfl⟩:=hk
     injection hk with hk
     subst hk
     refine ih _ _ w' (hl.set hi) hge2 hsl2 hcnt ?_ (he.trans he')
     rw [hup]
     exact ⟨by rw [ZI];exact hc.defers,(hc.fr.ev he').put hdo hu,hs'⟩
    ·exact absurd hk.1 (by simp)
theorem C3 {P:Program}{n:Nat}{ds:List Deferred}{mu:List Nat}{id:Nat}{ops:Array Oper}{Q:Exit→Fr→Store→Prop}{fr:Fr}{σ:Store}{s m:Nat}(hm:P.follows .mixedOrders=true)(hB:ops.toList.all (opB n)=true)
 (hc:T0 ops m=true) (hsm:s<m) (hmid:Ar ops s m=true) (h:Rr P mu ops Q σ (m-s-1) s ops.toList (fun _=>True) fr):AWp P n ds (.region id ops true) Q fr σ:=by
 intro a w hcf Q' hq
 obtain ⟨pv,fr1,e,O,h1,h2,h3,h4,h5⟩:=C4 _ _ _ _ h
 have hd:=VC hc
 have hBl:=List.all_eq_true.1 hB
 have hev:=Ev.drew σ w
 have hle:=hd.le
 refine wp_region_any hm (Ls (mu:=mu) (R:=Q) hd hsm (Cf hmid) hBl (by simpa using h1) h2 h3 (fun σ' ho=>(h5 σ' ho).2) (Xi h4) (w0:=w) hq ops.size _ a _ MA (fun j _ _=>getD_none _ _) (getD_none _ _) ?_ ?_ hev)
 ·have:=MB m ops.size
  omega
 ·rw [Oh];exact ⟨hcf.defers,hcf.fr.ev hev,hcf.ok.drew⟩
def drB (ops:Array Oper):Nat×Nat→Bool
 | (m,0)=>T0 ops m
 | (m,1)=>T0 ops (m+1)
 | (m,2)=>T0 ops (m+1)&&Nj ops m
 | (m,s+3)=>T0 ops m&&decide (s<m)&&Ar ops s m
def adk (P:Program)(mu:List Nat)(ops:Array Oper)(Q:Exit→Fr→Store→Prop)(σ:Store)(k m:Nat)(l:List Oper)(fr:Fr):Prop :=
 if 3≤k then Rr P mu ops Q σ (m-(k-3)-1) (k-3) l (fun _=>True) fr else ahd P mu ops Q σ k m l fr
def adr (P:Program)(mu:List Nat)(dr:List (Nat×Nat×Nat))(id:Nat)(ops:Array Oper)(Q:Exit→Fr→Store→Prop)(fr:Fr)(σ:Store):Prop :=
 adk P mu ops Q σ (Rn dr id).2 (Rn dr id).1 ops.toList fr
theorem AP {P:Program}{n:Nat}{ds:List Deferred}{mu:List Nat}{dr:List (Nat×Nat×Nat)}{id:Nat}{ops:Array Oper}{Q:Exit→Fr→Store→Prop}{fr:Fr}{σ:Store}(hm:P.follows .mixedOrders=true)(hB:ops.toList.all (opB n)=true)
 (hc:drB ops (Rn dr id)=true) (h:adr P mu dr id ops Q fr σ):AWp P n ds (.region id ops true) Q fr σ:=by
 unfold adr at h
 generalize Rn dr id=p at hc h
 obtain ⟨m,k⟩:=p
 simp only [adk] at h
 match k,hc,h with
 | 0,hc,h =>
   have hlen:m≤ops.toList.length:=by rw [Array.length_toList];exact (VC hc).le
   rw [if_neg (by omega),UW,if_pos hlen] at h
   exact bH m hm hc hB h
 | 1,hc,h =>
   have hlen:m≤ops.toList.length:=by rw [Array.length_toList];have:=(VC hc).le;omega
   rw [if_neg (by omega),UW,if_pos hlen] at h
   exact JZ hm hB hc (fun h=>by cases h) h
 | 2,hc,h =>
   simp only [drB,Bool.and_eq_true] at hc
   have hlen:m≤ops.toList.length:=by rw [Array.length_toList];have:=(VC hc.1).le;omega
   rw [if_neg (by omega),UW,if_pos hlen] at h
   exact JZ hm hB hc.1 (fun _=>hc.2) h
 | s+3,hc,h =>
   simp only [drB,Bool.and_eq_true,decide_eq_true_eq] at hc
   rw [if_pos (by omega)] at h
   exact C3 hm hB hc.1.1 hc.1.2 hc.2 h
end Go.Vx
end
section
namespace Go.Vx
open Go.RowKit
def UJ (v:AV)(A B:((Exit→Fr→Store→Prop)→Fr→Store→Prop))(Q:Exit→Fr→Store→Prop)(fr:Fr)(σ:Store):Prop :=
 match v with
 | .val (.bool b)=>(b=true→A Q fr σ)∧(b=false→B Q fr σ)
 | _=>False
def In (dr:List (Nat×Nat×Nat)):Code→Bool
 | .region id _ true=>decide (1000≤(Rn dr id).1)
 | _=>false
def avc (P:Program)(n:Nat)(ds:List Deferred)(mu:List Nat)(dr:List (Nat×Nat×Nat)):Code→(Exit→Fr→Store→Prop)→Fr→Store→Prop
 | .skip,Q,fr,σ=>Q .normal fr σ
 | .region id ops false,Q,fr,σ=>Y7 P mu ops ops.toList Q fr σ
 | .region id ops true,Q,fr,σ=>adr P mu dr id ops Q fr σ
 | .seq a b,Q,fr,σ=>if In dr a=true then AWp P n ds (.seq a b) Q fr σ else avc P n ds mu dr a (Ux (avc P n ds mu dr b) Q) fr σ
 | .cond c t e,Q,fr,σ=>UJ (fr.ev c) (avc P n ds mu dr t) (avc P n ds mu dr e) Q fr σ
 | .block id c,Q,fr,σ=>avc P n ds mu dr c (VT id Q) fr σ
 | .loop c,Q,fr,σ=>AWp P n ds (.loop c) Q fr σ
 | .exit id,Q,fr,σ=>Q (.exit id) fr σ
 | .ret,Q,fr,σ=>Q .ret fr σ
 | .goto l,Q,fr,σ=>Q (.goto l) fr σ
 | .label _,Q,fr,σ=>Q .normal fr σ
 | _,_,_,_=>False
def Vi (n:Nat)(dr:List (Nat×Nat×Nat)):Code→Bool
 | .region id ops d=>ops.toList.all (opB n)&&(!d || drB ops (Rn dr id))
 | .seq a b=>In dr a || (Vi n dr a&&Vi n dr b)
 | .cond c t e=>de n c&&Vi n dr t&&Vi n dr e
 | .block _ c=>Vi n dr c
 | .loop c=>Vi n dr c
 | _=>true
theorem ZD {P:Program}{n:Nat}{ds:List Deferred}{mu:List Nat}{dr:List (Nat×Nat×Nat)}(hm:P.follows .mixedOrders=true):∀ (c:Code),Vi n dr c=true→∀ (Q:Exit→Fr→Store→Prop) (fr:Fr) (σ:Store),avc P n ds mu dr c Q fr σ→AWp P n ds c Q fr σ:=by
 intro c
 induction c with
 | skip=>intro _ Q fr σ h a w hc Q' hq;exact wp_skip (hq _ _ _ _ _ h hc (Ev.refl _ _))
 | region id ops d =>
   intro hB Q fr σ h
   simp only [Vi,Bool.and_eq_true,Bool.or_eq_true] at hB
   cases d with
   | false =>
     intro a w hc Q' hq
     exact wp_region_list (W2 (YZ hB.1) ops.toList (List.all_eq_true.1 hB.1) fr σ a w h hc hq)
   | true=>exact AP hm hB.1 (hB.2.resolve_left (by simp)) h
 | seq x y ihx ihy =>
   intro hB Q fr σ h
   simp only [avc] at h
   split at h
   ·exact h
   rename_i hraw
   intro a w hc Q' hq
   simp only [Vi,Bool.or_eq_true,Bool.and_eq_true] at hB
   replace hB:=hB.resolve_left hraw
   refine wp_seq (ihx hB.1 _ fr σ h a w hc _ (fun e fr' σ' a' w' q c' v=>?_))
   cases e with
   | normal=>exact ihy hB.2 Q fr' σ' q a' w' c' Q' (fun e2 fr2 σ2 a2 w2 q2 c2 v2=>hq e2 fr2 σ2 a2 w2 q2 c2 (v.trans v2))
   | exit i=>exact hq _ _ _ _ _ q c' v
   | goto l=>exact hq _ _ _ _ _ q c' v
   | ret=>exact hq _ _ _ _ _ q c' v
   | panic ch=>exact hq _ _ _ _ _ q c' v
   | outgrown=>exact hq _ _ _ _ _ q c' v
 | cond c t e iht ihe =>
   intro hB Q fr σ h a w hc Q' hq
   simp only [Vi,Bool.and_eq_true] at hB
   simp only [avc,UJ] at h
   split at h
   ·rename_i b hb
    have hv:=hc.fr.operand (a:=a) hB.1.1
    rw [hb] at hv
    generalize hx:a.eval c=x at hv
    cases hv
    refine wp_cond_split hx (fun hb=>iht hB.1.2 Q fr σ (h.1 hb) a w hc Q' hq) (fun hb=>ihe hB.2 Q fr σ (h.2 hb) a w hc Q' hq)
   ·exact eY
 | block id c ih =>
   intro hB Q fr σ h a w hc Q' hq
   refine wp_block (ih hB _ fr σ h a w hc _ (fun e fr' σ' a' w' q c' v=>?_))
   cases e with
   | normal=>exact hq _ _ _ _ _ q c' v
   | exit i =>
     simp only [VT] at q
     simp only [Exit.inBlock]
     split
     ·rename_i e;rw [if_pos e] at q;exact hq _ _ _ _ _ q c' v
     ·rename_i e;rw [if_neg e] at q;exact hq _ _ _ _ _ q c' v
   | goto l=>exact hq _ _ _ _ _ q c' v
   | ret=>exact hq _ _ _ _ _ q c' v
   | panic ch=>exact hq _ _ _ _ _ q c' v
   | outgrown=>exact hq _ _ _ _ _ q c' v
 | loop c ih=>intro hB Q fr σ h;exact h
 | exit id=>intro _ Q fr σ h a w hc Q' hq;exact wp_exit (hq _ _ _ _ _ h hc (Ev.refl _ _))
 | ret=>intro _ Q fr σ h a w hc Q' hq;exact wp_ret (hq _ _ _ _ _ h hc (Ev.refl _ _))
 | goto l=>intro _ Q fr σ h a w hc Q' hq;exact wp_goto (hq _ _ _ _ _ h hc (Ev.refl _ _))
 | label l=>intro _ Q fr σ h a w hc Q' hq;exact wp_label (hq _ _ _ _ _ h hc (Ev.refl _ _))
 | rangeFunc f ps as b _ _=>intro _ Q fr σ h;exact h.elim
 | scope c _=>intro _ Q fr σ h;exact h.elim
 | refuse why=>intro _ Q fr σ h;exact h.elim
end Go.Vx
end
