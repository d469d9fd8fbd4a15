/- A part of the proof of clausalSpinesProved. -/
import Derived.Test.YtllgjklcpieanaaGreatDoorR14
import Derived.Test.YtllgjklcpieanaaGreatDoorR13
import Derived.Test.YtllgjklcpieanaaGreatDoorR12
import Derived.Test.YtllgjklcpieanaaGreatDoorR10
import Derived.Test.YtllgjklcpieanaaGreatDoorR15
import Derived.Test.YtllgjklcpieanaaGreatDoorR11
set_option linter.unusedVariables false
set_option linter.unusedSimpArgs false
set_option maxRecDepth 100000
section
namespace Go.Vx
open Go.Proofs
theorem MF:∀ (t:Fm) (m:Int),0<=m->m<=4000->Pur nC 236 [.agg t.emb,vi m] (vi (prt t.shape m)):=by
 intro t
 induction t using eg with|h k s l ty fs ih=>?_
 obtain⟨ts,tl⟩:=ty
 intro m h0 hm σ
 refine Zh.ok xy (fun hok=>?_)
 have hlen:=(((hok _ ir).agg (c:=.list .none 4 (cJ l)) xt).len)
 have hlen2:=(((hok _ ir).agg (c:=.list .none 6 (cN fs)) xt).len)
 rw[cF] at hlen
 rw[cU] at hlen2
 clear hok
 simp only[cM]
 have hsh:prt (Fm.mk k s l (.mk ts tl) fs).shape m=Yc (cK l++cR fs) 1 m:=by simp only[Fm.shape,prt]
 rw[hsh]
 refine Zb [] [] Tryz.func236 rfl xy ?_;rw[Tryz.ntmps236,Tryz.results236]
 refine uw ?_
 refine Zp (mu:=[]) (dr:=[]) [5,6,8,9,10,11,12,13,14,15,16,17,18,19,20,21,22,23,24,25,26,27,28,29,30] (fun x:Nat×Int=>[(6,vi x.1),(5,vi x.2)]) (fun _=>σ)
  (fun x=>x.1<=l.length/\1<=x.2/\x.2<=m+1/\Yc (cK l++cR fs) 1 m=Yc (cK (l.drop x.1)++cR fs) x.2 m) (fun x=>l.length-x.1) (0,1) xy ⟨by simp,by simp,by dsimp only;omega,by simp⟩ ⟨.refl _,.refl _,trivial⟩ (.refl _) ?_
 rintro⟨i,c⟩ ⟨hi,hc1,hc2,hx⟩
 dsimp only at hi hc1 hc2 hx
 by_cases hgo:(i:Int)<(l.length:Int)/\c<=m
 ·obtain⟨hi2,hcm⟩:=hgo
  have x1:=iS hi2
  have x2:=iS hcm
  refine uB fun x0=>?_
  refine uG fun a ha=>?_
  have g:(cJ l)[i]?=some a.emb:=by rw[cW,jp,ha];rfl
  have w1:IntKind.i64.wrap (m-c)=m-c:=Zk xh xh
  have iha:=FF a (m-c) xh xh
  have hb:=Wg a.shape (m-c) xh
  refine wx fun w2=>?_
  refine uz fun w3=>?_
  have hd:Yc (cK (l.drop i)++cR fs) c m=Yc (cK (l.drop (i+1))++cR fs) (c+prt a.shape (m-c)) m:=by
   rw[drop_at ha];simp only[cK,kE,Yc,gZ hcm]
  exact pr
 ·have hf:Yc (cK l++cR fs) 1 m=Yc (cR fs) c m:=by
   rw[hx]
   by_cases hi2:(i:Int)<(l.length:Int)
   ·have:m<c:=by
     by_cases h:c<=m
     ·exact absurd ⟨hi2,h⟩ hgo
     ·omega
    rw[Y8 _ this,Y8 _ this]
   ·rw[jD xh];simp[cK]
  rw[hf]
  by_cases hi2:(i:Int)<(l.length:Int)
  ·have x1:=iS hi2
   have x2:(c<=m)=False:=iU (fun h=>hgo ⟨hi2,h⟩)
   try simp only[go_sem,seval,cF,x1,x2,iT,iV]
   exact ou
  ·have x1:=iU hi2
   refine wY ?_
   exact ou
theorem Ot:∀ (t:Fm) (m:Int),0<=m->m<=4000->Pur nC 241 [.agg t.emb,vi m] (vi (lvl t.shape m)):=by
 intro t
 induction t using eg with|h k s l ty fs ih=>?_
 obtain⟨ts,tl⟩:=ty
 intro m h0 hm σ
 refine Zh.ok xy (fun hok=>?_)
 have hlen:=(((hok _ ir).agg (c:=.list .none 4 (cJ l)) xt).len)
 have hlen2:=(((hok _ ir).agg (c:=.list .none 6 (cN fs)) xt).len)
 rw[cF] at hlen
 rw[cU] at hlen2
 clear hok
 simp only[cM]
 have hsh:lvl (Fm.mk k s l (.mk ts tl) fs).shape m=YD (cK l++cR fs) 0 m+1:=by simp only[Fm.shape,lvl]
 rw[hsh]
 refine Zb [] [] Tryz.func241 rfl xy ?_;rw[Tryz.ntmps241,Tryz.results241]
 refine uw ?_
 refine Zp (mu:=[]) (dr:=[]) [5,6,8,9,10,11,12,13,14,15,16,17,18,19,20,21,22,23,24,25,26,27,28] (fun x:Nat×Int=>[(6,vi x.1),(5,vi x.2)]) (fun _=>σ)
  (fun x=>x.1<=l.length/\0<=x.2/\x.2<=m/\YD (cK l++cR fs) 0 m=YD (cK (l.drop x.1)++cR fs) x.2 m) (fun x=>l.length-x.1) (0,0) xy ⟨by simp,by simp,by dsimp only;omega,by simp⟩ ⟨.refl _,.refl _,trivial⟩ (.refl _) ?_
 rintro⟨i,c⟩ ⟨hi,hc1,hc2,hx⟩
 dsimp only at hi hc1 hc2 hx
 have w4:∀ d:Int,0<=d->d<=m->IntKind.i64.wrap (d+1)=d+1:=fun d _ _=>Zk xh xh
 by_cases hgo:(i:Int)<(l.length:Int)/\0<m
 ·obtain⟨hi2,hcm⟩:=hgo
  have x1:=iS hi2
  have x2:=iS hcm
  refine uB fun x0=>?_
  refine uG fun a ha=>?_
  have g:(cJ l)[i]?=some a.emb:=by rw[cW,jp,ha];rfl
  have w1:IntKind.i64.wrap (m-1)=m-1:=Zk xh xh
  have iha:=Ht a (m-1) xh xh
  have hb:=Rf a.shape (m-1) xh
  refine uz fun w3=>?_
  have hd:YD (cK (l.drop i)++cR fs) c m=YD (cK (l.drop (i+1))++cR fs) (max c (lvl a.shape (m-1))) m:=by
   rw[drop_at ha];simp only[cK,kE,YD,gZ hcm]
  exact pp
 ·have hf:YD (cK l++cR fs) 0 m=YD (cR fs) c m:=by
   rw[hx]
   by_cases hi2:(i:Int)<(l.length:Int)
   ·have:¬ 0<m:=by
     by_cases h:0<m
     ·exact absurd ⟨hi2,h⟩ hgo
     ·omega
    rw[WX _ this,WX _ this]
   ·rw[jD xh];simp[cK]
  rw[hf]
  by_cases hi2:(i:Int)<(l.length:Int)
  ·have x1:=iS hi2
   have x2:(0<m)=False:=iU (fun h=>hgo ⟨hi2,h⟩)
   try simp only[go_sem,seval,cF,x1,x2,iT,iV]
   exact ow
  ·have x1:=iU hi2
   refine wY ?_
   exact ow
end Go.Vx
end
section
namespace Go.Vx
open Go.Proofs Go.RowKit
section
variable {κ:Type}
def Xn(m:List (κ×AV)):List (κ×AV×Nat):=m.zipIdx.map fun p=>(p.1.1,p.1.2,p.2)
theorem Hn(m:List (κ×AV)):(Xn m).map (·.1)=m.map (·.1):=by
 unfold Xn
 rw[ki]
 apply ml
 intro i
 simp only[jp,mM,Option.map_map]
 cases m[i]?<;>rfl
variable [DecidableEq κ]
def putA(m:List (κ×AV))(k:κ)(v:AV):List (κ×AV):=if k∈m.map (·.1) then m.map (fun e=>if e.1=k then(k,v) else e) else m++[(k,v)]
def Z3(m:List (κ×AV))(k:κ):nM AV:=(m.find? (fun e=>decide (e.1=k))).map (·.2)
theorem VK(m:List (κ×AV))(k:κ)(v:AV):T3 (Xn m) k v m.length=Xn (putA m k v)/\T5 (Xn m) k m.length=(putA m k v).length:=by
 unfold T3 T5 putA
 rw[Hn]
 split
 ·refine⟨?_,by simp⟩
  apply ml
  intro i
  simp only[Xn,jp,mM,Option.map_map]
  cases m[i]? with
  | none=>rfl
  | some e =>
    simp only[jX,Function.comp,jq]
    by_cases h:e.1=k<;>simp[h]
 ·refine⟨?_,by simp⟩
  simp[Xn,List.zipIdx_append]
theorem WW(m:List (κ×AV))(k:κ):VL (Xn m) k=Z3 m k:=by
 unfold VL Z3 Xn
 have:∀ (m:List (κ×AV)) (n:Nat),(((m.zipIdx n).map fun p=>(p.1.1,p.1.2,p.2)).find? (fun e=>decide (e.1=k))).map (·.2.1)=(m.find? (fun e=>decide (e.1=k))).map (·.2):=by
  intro m
  induction m with
  | nil=>intro n;rfl
  | cons a r ih =>
    intro n
    simp only[List.zipIdx_cons,iR,mV]
    by_cases h:a.1=k
    ·simp[h]
    ·simp only[h,iV];exact ih _
 exact this m 0
theorem U8(m:List (κ×AV))(k x:κ)(v:AV):Z3 (putA m k v) x=if x=k then some v else Z3 m x:=by
 unfold putA
 split
 ·rename_i h
  unfold Z3
  induction m with
  | nil=>simp at h
  | cons a r ih =>
    simp only[iR,mV]
    by_cases hx:x=k
    ·subst hx
     rw[gZ rfl]
     by_cases ha:a.1=x
     ·simp[ha]
     ·simp only[ha,lJ,iV]
      have:x∈r.map (·.1):=by
       rcases List.mem_cons.1 h with e|e
       ·exact absurd e.symm ha
       ·exact e
      have:=ih this
      rw[gZ rfl] at this
      exact this
    ·rw[ig hx]
     by_cases ha:a.1=k
     ·have h2:¬ k=x:=fun e=>hx e.symm
      have h3:¬ a.1=x:=fun e=>hx (by rw[<- e,ha])
      simp only[ha,iE,h2,iV]
      by_cases hk:k∈r.map (·.1)
      ·have:=ih hk;rw[ig hx] at this;exact this
      ·have:∀ e∈r,¬ e.1=k:=fun e he hh=>hk (by rw[<- hh];exact iB (f:=(·.1)) he)
       have hm:r.map (fun e=>if e.1=k then(k,v) else e)=r:=by
        calc _=r.map id:=mj (fun e he=>by rw[ig (this e he)];rfl)
         _=r:=by simp
       rw[hm]
     ·simp only[ha,lJ]
      by_cases h3:a.1=x
      ·simp[h3]
      ·simp only[h3,iV]
       have:k∈r.map (·.1):=by
        rcases List.mem_cons.1 h with e|e
        ·exact absurd e.symm ha
        ·exact e
       have:=ih this
       rw[ig hx] at this
       exact this
 ·rename_i h
  unfold Z3
  rw[List.find?_append]
  by_cases hx:x=k
  ·subst hx
   rw[gZ rfl]
   have:m.find? (fun e=>decide (e.1=x))=none:=by
    rw[mN]
    intro e he
    simp only[kD]
    exact fun hh=>h (by rw[<- hh];exact iB (f:=(·.1)) he)
   rw[this];simp
  ·rw[ig hx]
   have h2:¬ k=x:=fun e=>hx e.symm
   cases m.find? (fun e=>decide (e.1=x))<;>simp[h2]
end
open Go.RowKit
def EU(ops:nN nI)(m:Nat):Bool :=
 let l:=ops.toList
 let ms:=RI l []
 (l.zipIdx.all fun p=>p.1.after.toList.all fun e=>!Region.binds .any e || decide (e.on<p.2)) &&
 (l.zipIdx.all fun p=>decide (p.2<m) || (List.range m).all fun j=>(ms.getD p.2 0).testBit j)&&decide (m<=l.length)
theorem ET{ops:nN nI}{m:Nat}(h:EU ops m=true):(∀ (i:Nat) (o:nI) (e:Edge),ops[i]?=some o->e∈o.after.toList->Region.binds .any e=true->e.on<i)/\(∀ (i j:Nat),m<=i->i<ops.size->j<m->Bef ops j i)/\m<=ops.size:=by
 unfold EU at h
 simp only[kJ,kD] at h
 obtain⟨⟨h1,h3⟩,h4⟩:=h
 have hms:=XX (ops:=ops) ops.toList [] (fun j=>by simp) (fun j k hk=>by simp at hk)
 have get:∀ (i:Nat) (o:nI),ops[i]?=some o->(o,i)∈ops.toList.zipIdx:=fun i o ho=>by
  rw[kN];simpa using ho
 refine⟨fun i o e ho he hb=>?_,fun i j hi hs hj=>?_,by simpa using h4⟩
 ·exact sY
 ·exact qA
def lsm(n m:Nat):nN Bool:=(List.replicate m true++List.replicate (n-m) false).toArray
theorem Kl{ops:nN nI}{ls:nN Bool}(hd:∀ (i:Nat) (o:nI) (e:Edge),ops[i]?=some o->e∈o.after.toList->Region.binds .any e=true->e.on<i)(h:Lst ops ls){j:Nat}(hj:j<ops.size)(hl:ls.getD j false=false):Region.ready .any ops ls≠[]:=by
 have key:∀ n j,j<=n->j<ops.size->ls.getD j false=false->∃ i,i∈Region.ready .any ops ls:=by
  intro n
  induction n with
  | zero =>
    intro j hj hs hl
    refine⟨j,Yl.2 ⟨hs,by rw[Xj ym];exact hl,ops[j],jK hs,fun e he hb=>?_⟩⟩
    have:=hd j _ e (jK hs) he hb
    omega
  | succ n ih =>
    intro j hj hs hl
    by_cases ha:∀ e∈ops[j].after.toList,Region.binds .any e=true->ls.getD e.on false=true
    ·exact tg
    ·have:∃ e,e∈ops[j].after.toList/\Region.binds .any e=true/\ls.getD e.on false=false:=by
      exact rS
     obtain⟨e,he,hb,hv⟩:=this
     have:=hd j _ e (jK hs) he hb
     exact ih e.on xh xh hv
 exact tq
theorem fw{P:nE}{n:Nat}{ds:List nK}{id:Nat}{ops:nN nI}{Q:Exit->Fr->Store->Prop}{fr0:Fr}{σ0:Store}(mu:List Nat)(m:Nat)(ch:List Nat)(dr:List (Nat×List (Nat×Nat)))(all:List (Nat×Nat))(Fv:Nat->AV->Store->Prop)(R:Store->Store->Prop)(G:Store->Prop)
 (i0:Nat) (tt rr:Ord) (hm:P.follows .mixedOrders=true) (hchk:(ops.toList.all (opB n)&&EU ops m&&Lk ops dr dr 0&&Qh ops ch dr 0&&all.all (fun p=>decide (Tl dr p.1=some p.2))&&decide (dr.length=m)&&decide (Region.ready .any ops (lsm ops.size m)=(Ord.alt i0 tt rr).keys)&&eQ ops (.alt i0 tt rr) (lsm ops.size m)&&decide ((Ord.alt i0 tt rr).depth<=ops.size-m))=true)
 (hst:∀ i v S S',R S S'->Fv i v S->Fv i v S') (g0:G σ0) (h:TM P mu ch fr0 Fv R G dr 0 (ops.toList.take m))
 (hq:∀ fr S,Zf ch fr0 fr->G S->Wm Fv fr S all->UW P mu ops (.alt i0 tt rr) Q fr S):AWp P n ds (.region id ops true) Q fr0 σ0:=by
 simp only[kJ,kD] at hchk
 obtain⟨⟨⟨⟨⟨⟨⟨⟨hB,hdw⟩,hdp⟩,hsl⟩,hall⟩,hlen⟩,hk1⟩,hk2⟩,hk3⟩:=hchk
 have hBl:=List.all_eq_true.1 hB
 obtain⟨hdown,hwall,hle⟩:=ET hdw
 have hdep:1<=(Ord.alt i0 tt rr).depth:=by simp only[Ord.depth];omega
 intro a w hc Q' hq' ro mm
 refine mB hm ?_
 have ev:=Ev.drew σ0 w
 have inR:∀ {i d:Nat},Tl dr i=some d->i<m:=fun{i d} h=>by
  exact rP
 have key:∀ (fuel:Nat) (ls:nN Bool) (fr:Fr) (S:Store) (a':Act) (w':nH),Lst ops ls->(∀ j,m<=j->j<ops.size->ls.getD j false=false)->(List.range m).countP (fun k=>!ls.getD k false)+(ops.size-m)<=fuel->Zf ch fr0 fr->G S ->
  (∀ (i d:Nat),Tl dr i=some d->ls.getD i false=true->Fv i (fr d) S)->YL n ds S fr a' w'->Ev σ0 w S w'->wpAnyIn (fen ro) mm P .any ops Q' fuel ls a' w':=by
  intro fuel
  induction fuel with
  | zero =>
    intro ls fr S a' w' hl hge hcnt hk hG hF hc' hv'
    omega
  | succ fuel ih =>
    intro ls fr S a' w' hl hge hcnt hk hG hF hc' hv'
    by_cases hz:∀ j,j<m->ls.getD j false=true
    ·have hls:ls=lsm ops.size m:=by
      apply Array.ext
      ·rw[hl.size];simp[lsm];omega
      ·intro j h1 h2
       have hjs:j<ops.size:=by rw[<- hl.size];exact h1
       have e1:ls[j]=ls.getD j false:=by simp[jO,h1]
       rw[e1]
       by_cases hj:j<m
       ·rw[hz j hj];simp[lsm,List.getElem_append,hj]
       ·rw[hge j xh hjs];simp[lsm,List.getElem_append,hj]
     have hfl:Wm Fv fr S all:=W0 fun p hp=>by
      have:=List.all_eq_true.1 hall p hp
      simp only[kD] at this
      exact hF _ _ this (hz _ (inR this))
     have hA:=hq fr S hk hG hfl
     rw[hls]
     refine⟨fun hr=>by rw[hr] at hk1;simp[Ord.keys] at hk1,fun j hj=>?_⟩
     rw[hk1] at hj
     exact Pj (P:=P) (ro:=ro) (mm:=mm) (mu:=mu) (σ0:=σ0) (w0:=w) hBl hq' (.alt i0 tt rr) fuel (lsm ops.size m) fr S a' w' hk2 xh hA hc' hv' j hj
    obtain⟨j0,hj0,hl0⟩:∃ j,j<m/\ls.getD j false=false:=by
     exact rW
    refine⟨fun hr=>absurd hr (Kl hdown hl (jJ hj0 hle) hl0),fun i hi=>?_⟩
    obtain⟨h1,h2,o,ho,h3⟩:=Yl.1 hi
    have hsz:i<ls.size:=by rw[hl.size];exact h1
    have hni:ls.getD i false=false:=by rw[<- Xj hsz];exact h2
    have him:i<m:=by
     apply kP
     intro h4
     have:=hl.bef_ready (hwall i j0 h4 h1 hj0) hi
     rw[hl0] at this
     cases this
    exact om
 exact qM
def aoG(P:nE)(mu:List Nat)(ops:nN nI)(t:Ord)(Q:Exit->Fr->Store->Prop)(fr:Fr)(σ:Store):nM nI->Prop
 | some o=>XV ops o.guard fr (kDo P mu (Nk t (UW P mu ops t)) Q σ o) (Ov (Nk t (UW P mu ops t)) Q σ o.dst)
 | none=>False
theorem Vh(P:nE)(mu:List Nat)(ops:nN nI)(t:Ord)(Q:Exit->Fr->Store->Prop)(fr:Fr)(σ:Store)(o:nI):aoG P mu ops t Q fr σ (some o)=XV ops o.guard fr (kDo P mu (Nk t (UW P mu ops t)) Q σ o) (Ov (Nk t (UW P mu ops t)) Q σ o.dst):=rfl
theorem Wq(P:nE)(mu:List Nat)(l:List nI)(i:Nat)(t r:Ord)(Q:Exit->Fr->Store->Prop)(fr:Fr)(σ:Store):UW P mu ⟨l⟩ (.alt i t r) Q fr σ=(aoG P mu ⟨l⟩ t Q fr σ l[i]?/\UW P mu ⟨l⟩ r Q fr σ):=by
 simp only[UW,mf]
 cases l[i]?<;>rfl
def Cut(ch:List Nat)(fr:Fr)(R:Fr->Store->Prop)(T:nG->Store->Prop):Exit->Fr->Store->Prop:=fun e fr' σ'=>(e=.normal/\Zf ch fr fr'/\R fr' σ')\/∃ pv,e=.panic [{ v:=pv,recovered:=false }]/\T pv σ'
theorem AWp.cut{P:nE}{n:Nat}{ds:List nK}{x y:Code}{Q:Exit->Fr->Store->Prop}{fr:Fr}{σ:Store}(ch:List Nat)(R:Fr->Store->Prop)(T:nG->Store->Prop)(h1:AWp P n ds x (Cut ch fr R T) fr σ)
 (h2:∀ fr' σ',Zf ch fr fr'->R fr' σ'->AWp P n ds y Q fr' σ') (h3:∀ pv fr' σ',T pv σ'->Q (.panic [{ v:=pv,recovered:=false }]) fr' σ'):AWp P n ds (.seq x y) Q fr σ:=by
 refine .seq (h1.mono ?_)
 rintro e fr' σ' (⟨rfl,hk,hr⟩|⟨pv,rfl,ht⟩)
 ·exact h2 fr' σ' hk hr
 ·exact h3 pv fr' σ' ht
open Go.Proofs Go.RowKit
def TY{α:Type}(q:α->Bool):nM α->Bool
 | some t=>q t
 | none=>false
theorem Ru{P:nE}{k:nL}{args:List AV}{σ:Store}{α:Type}{l:List α}{q:α->Bool}(h:Zh P k args σ (PA (fun i=>TY q l[i]?) l.length (fun _=>σ))):Zh P k args σ (ZP (vb (l.any q)) σ):=by
 refine h.mono ?_
 rintro r σ' (⟨i,hi,hb,_,rfl,rfl⟩|⟨hn,rfl,rfl⟩)
 ·have:l.any q=true:=by
   rw[List.any_eq_true]
   simp only[iO hi,TY] at hb
   exact⟨l[i],kj hi,hb⟩
  rw[this];exact⟨rfl,rfl⟩
 ·have:l.any q=false:=by
   rw[List.any_eq_false]
   intro x hx
   obtain⟨i,hi,rfl⟩:=iN hx
   have:=hn i hi
   simp only[iO hi,TY] at this
   rw[this];simp
  rw[this];exact⟨rfl,rfl⟩
theorem AF(t:Ty):t.emb.length=2:=by cases t;rfl
theorem AG(t:Tm):t.emb.length=4:=by cases t;rfl
theorem AJ(t:Fm):t.emb.length=6:=by obtain⟨k,s,a,⟨ts,tl⟩,l⟩:=t;rfl
theorem FY(t:Pd):t.emb.length=4:=rfl
theorem AH(t:Qy):t.emb.length=8:=by obtain⟨n,v,⟨k,s,a,⟨ts,tl⟩,l⟩⟩:=t;rfl
theorem aG(σ:Store)(l:List Pd)(rt:Rt)(sz:Nat)(hs:sz=4\/l=[])(f:nG)(q:Pd->Bool)(hf:∀ d∈l,ZH nC (.val f) [.agg d.emb] σ (ZP (vb (q d)) σ)) :
 Zh nC 232 [.list rt sz (df l),.val f] σ (ZP (vb (l.any q)) σ):=by
 refine Ru ?_
 have:=R1 f rt sz (df l) (fun _=>σ) (fun i=>TY q l[i]?) (hs.imp id (fun h=>by rw[h];rfl)) (fun i e he=>by obtain⟨t,_,rfl⟩:=eL he;exact FY t)
  (fun i e he _=>by
   obtain⟨t,ht,rfl⟩:=eL he
   simp only[ht,TY]
   exact hf t (iG ht))
 rw[dC] at this
 exact this
theorem DK(σ:Store)(l:List Qy)(rt:Rt)(sz:Nat)(hs:sz=8\/l=[])(f:nG)(q:Qy->Bool)(hf:∀ d∈l,ZH nC (.val f) [.agg d.emb] σ (ZP (vb (q d)) σ)) :
 Zh nC 234 [.list rt sz (dy l),.val f] σ (ZP (vb (l.any q)) σ):=by
 refine Ru ?_
 have:=R0 f rt sz (dy l) (fun _=>σ) (fun i=>TY q l[i]?) (hs.imp id (fun h=>by rw[h];rfl)) (fun i e he=>by obtain⟨t,_,rfl⟩:=fE he;exact AH t)
  (fun i e he _=>by
   obtain⟨t,ht,rfl⟩:=fE he
   simp only[ht,TY]
   exact hf t (iG ht))
 rw[dA] at this
 exact this
theorem aF(σ:Store)(l:List Ty)(rt:Rt)(sz:Nat)(hs:sz=2\/l=[])(f:nG)(q:Ty->Bool)(hf:∀ d∈l,ZH nC (.val f) [.agg d.emb] σ (ZP (vb (q d)) σ)) :
 Zh nC 105 [.list rt sz (cI l),.val f] σ (ZP (vb (l.any q)) σ):=by
 refine Ru ?_
 have:=Uu f rt sz (cI l) (fun _=>σ) (fun i=>TY q l[i]?) (hs.imp id (fun h=>by rw[h];rfl)) (fun i e he=>by obtain⟨t,_,rfl⟩:=dJ he;exact AF t)
  (fun i e he _=>by
   obtain⟨t,ht,rfl⟩:=dJ he
   simp only[ht,TY]
   exact hf t (iG ht))
 rw[cG] at this
 exact this
theorem TX(σ:Store)(l:List Tm)(rt:Rt)(sz:Nat)(hs:sz=4\/l=[])(f:nG)(q:Tm->Bool)(hf:∀ d∈l,ZH nC (.val f) [.agg d.emb] σ (ZP (vb (q d)) σ)) :
 Zh nC 146 [.list rt sz (cJ l),.val f] σ (ZP (vb (l.any q)) σ):=by
 refine Ru ?_
 have:=RZ f rt sz (cJ l) (fun _=>σ) (fun i=>TY q l[i]?) (hs.imp id (fun h=>by rw[h];rfl)) (fun i e he=>by obtain⟨t,_,rfl⟩:=dQ he;exact AG t)
  (fun i e he _=>by
   obtain⟨t,ht,rfl⟩:=dQ he
   simp only[ht,TY]
   exact hf t (iG ht))
 rw[cF] at this
 exact this
end Go.Vx
end
section
namespace Go.Vx
open Go.Proofs Go.RowKit
theorem WN.sub{P:nE}{l:Nat}{tv:AV}{σ σ1:Store}{R:ZE->Store->Prop}(h:WN P l tv σ1 R)(k:Sub σ1 σ):WN P l tv σ R:=fun w v hσ hv =>
 let ⟨r,h1,h2,h3⟩:=h w v (hσ.sub k) (hv.ev (k.ev w))
 ⟨r,h1,h2,fun ro m=>(h3 ro m).mono fun e w' he=>by
  cases e with
  | returned v=>obtain⟨av,σ',a,b,c,d⟩:=he;exact⟨av,σ',a,b,c,(k.ev w).trans d⟩
  | panicked c=>obtain⟨pv,σ',e,a,b,d⟩:=he;exact⟨pv,σ',e,a,b,(k.ev w).trans d⟩
  | outgrown=>exact he⟩
theorem ZH.sub{P:nE}{f:AV}{args:List AV}{σ σ1:Store}{R:ZE->Store->Prop}(h:ZH P f args σ1 R)(k:Sub σ1 σ):ZH P f args σ R:=by
 rcases h with⟨g,first,cap,e,h⟩|⟨l,tv,e1,e2,h⟩
 ·exact .inl ⟨g,first,cap,e,h.sub k⟩
 ·exact .inr ⟨l,tv,e1,e2,h.sub k⟩
def Y2(own:List Nat)(S S':Store):Prop:=∀ k x,S.get k=some x->k ∉ own->S'.get k=some x
theorem Y2.refl(own:List Nat)(S:Store):Y2 own S S:=fun _ _ h _=>h
theorem Y2.trans{own:List Nat}{a b c:Store}(h:Y2 own a b)(k:Y2 own b c):Y2 own a c:=fun i x hi hn=>k i x (h i x hi hn) hn
structure LU {α:Type} (P:Program) (y:AV) (e:α->AV) (own:List Nat) (I T:List α->Store->Prop):Prop where
 has:∀ q S,I q S->∀ k∈own,(S.get k).isSome=true
 cons:∀ q S k x,I q S->Zm S k->I q ((k,x)::S)
 step:∀ q a S,I q S->ZH P y [e a] S (fun r S'=>Y2 own S S'/\((r=.ret (vb true)/\I (q++[a]) S')\/(r=.ret (vb false)/\T (q++[a]) S')))
theorem LU.notin{α:Type}{P:nE}{y:AV}{e:α->AV}{own:List Nat}{I T:List α->Store->Prop}(h:LU P y e own I T){q:List α}{S:Store}(hI:I q S){k:Nat}(hk:Zm S k):k ∉ own:=fun hm=>by
 have:=h.has q S hI k hm
 rw[Zj hk] at this
 cases this
def BW{α:Type}(P:nE)(g:nL)(cap:List nG)(N:Store->Prop)(e:α->AV)(L:List α):Prop :=
 ∀ (y:AV) (own:List Nat) (I T:List α->Store->Prop) (σ:Store),LU P y e own I T->(∀ q S,I q S->N S)->I [] σ ->
   Zh P g (y::cap.map .val) σ (fun r S'=>r=.ret (.tup [])/\(I L S'\/∃ p s,L=p++s/\T p S'))
mutual
def XH:Fm->List Ty
 | .mk k _ _ t l=>if k=10\/k=11 then t::Yw l else Yw l
def Yw:List Fm->List Ty
 | []=>[]
 | g::r=>XH g++Yw r
end
theorem P5(l m:List Fm):Yw (l++m)=Yw l++Yw m:=by
 induction l with
 | nil=>rfl
 | cons a r ih=>simp only[kE,Yw,ih,ju]
theorem IR(a:Fm):Yw [a]=XH a:=by simp[Yw]
theorem Qd{l:List Fm}{i:Nat}{a:Fm}(h:l[i]?=some a):Yw (l.take (i+1))=Yw (l.take i)++XH a/\Yw l=Yw (l.take i)++(XH a++Yw (l.drop (i+1))):=by
 constructor
 ·rw[jh,h,jj,P5,IR]
 ·conv=>lhs;rw[Z6 h,P5]
  rfl
abbrev tyA (t:Ty):AV:=.agg t.emb
theorem RM{y:AV}{own:List Nat}{I T:List Ty->Store->Prop}(hy:LU nC y tyA own I T):∀ (f:Fm) (q:List Ty) (σ:Store),I q σ ->
 Zh nC 273 [.agg f.emb,y] σ (fun r S'=>Y2 own σ S'/\((r=.ret (vb true)/\I (q++XH f) S')\/(r=.ret (vb false)/\∃ p s,XH f=p++s/\T (q++p) S'))):=by
 intro f
 induction f using eg with|h k s l ty fs ih=>?_
 intro q σ hI
 refine Zh.ok xy (fun hok=>?_)
 have hlen:=(((hok _ ir).agg (c:=.list .none 6 (cN fs)) (by obtain⟨ts,tl⟩:=ty;simp[cM])).len)
 rw[cU] at hlen
 clear hok
 obtain⟨ts,tl⟩:=ty
 simp only[cM]
 refine Zb [] [] Tryz.func273 rfl xy ?_;rw[Tryz.ntmps273,Tryz.results273]
 by_cases hk:k=10\/k=11
 ·have ht:XH (.mk k s l (.mk ts tl) fs)=.mk ts tl::Yw fs:=by simp only[XH,gZ hk]
  rw[ht]
  have hy1:=hy.step q (.mk ts tl) σ hI
  simp only[tyA,cQ] at hy1
  rcases hk with hk|hk
  ·subst hk
   refine wJ ?_
   exact ot
  ·subst hk
   have z:((11:Int)=10)=False:=iU xh
   try simp only[go_sem,seval,z,iT,iV]
   exact ot
 ·have z1:(k=10)=False:=iU (fun h=>hk (.inl h))
  have z2:(k=11)=False:=iU (fun h=>hk (.inr h))
  have ht:XH (.mk k s l (.mk ts tl) fs)=[]++Yw fs:=by simp only[XH,ig hk,kF]
  rw[ht]
  try simp only[go_sem,seval,z1,z2,iV]
  have hI':I (q++[]) σ:=by rw[kh];exact hI
  have hkb:=Y2.refl own σ
  refine Zp (mu:=[]) (dr:=[]) [4,6,25,26,27,28,29,30,31,32,33] (fun x:Nat×Store=>[(25,vi x.1)]) (fun x=>x.2)
   (fun x=>x.1<=fs.length/\I (q++([]++Yw (fs.take x.1))) x.2/\Y2 own σ x.2) (fun x=>fs.length-x.1) (0,σ) xy ⟨by simp,by simpa[Yw] using hI',hkb⟩ ⟨.refl _,trivial⟩ (.refl _) ?_
  rintro⟨i,S⟩ ⟨hi,hIi,hkS⟩
  dsimp only at hi hIi hkS
  by_cases hi2:(i:Int)<(fs.length:Int)
  ·have x1:=iS hi2
   refine uB fun x0=>?_
   obtain⟨a,ha⟩:∃ a,fs[i]?=some a:=⟨fs[i]' xh,iO xh⟩
   have g:(cN fs)[i]?=some a.emb:=by rw[dz,jp,ha];rfl
   refine uz fun w3=>?_
   have iha:=ih a (iG ha) _ S hIi
   obtain⟨t1,t2⟩:=Qd ha
   generalize XH a=ta at iha t1 t2
   obtain⟨ka,sa,la,⟨xa,xl⟩,fa⟩:=a
   simp only[cM] at g iha
   try simp only[go_sem,seval,cU,x0,x1,g,iT,iF,jq,jr,jt]
   intro b9 hb9
   refine uw ?_
   refine(iha.sub (.cons _ _)).mono ?_
   rintro r S2 ⟨hk2,(⟨rfl,h2⟩|⟨rfl,p,s2,hp,hT⟩)⟩
   ·refine vF ?_
    exact .mk (i+1,S2) ⟨by dsimp only;omega,by dsimp only;rw[t1];simpa[List.append_assoc] using h2,hkS.trans hk2⟩ xX ⟨.refl _,trivial⟩ yS (.refl _)
   ·refine uw ?_
    refine .mk (.refl _) (.refl _) ⟨hkS.trans hk2,.inr ⟨rfl,[]++(Yw (fs.take i)++p),s2++Yw (fs.drop (i+1)),?_,?_⟩⟩
    ·rw[t2,hp];simp[ju]
    ·simpa[ju] using hT
  ·have x1:=iU hi2
   try simp only[go_sem,seval,cU,x1,iV]
   rw[iW xh] at hIi
   exact .mk (.refl _) (.refl _) ⟨hkS,.inl ⟨rfl,hIi⟩⟩
end Go.Vx
end
