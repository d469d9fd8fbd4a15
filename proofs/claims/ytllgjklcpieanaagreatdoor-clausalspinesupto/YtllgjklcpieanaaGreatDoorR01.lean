/- A part of the proof of clausalSpinesProved. -/
import Derived.Test.YtllgjklcpieanaaGreatDoorR00
import Derived.Below
import Derived.Laws.Sem
import Derived.Laws.Entries
import Derived.Calls
import Derived.Laws.Cells
import Derived.Laws.IdiomCopy
import Derived.Laws.World
set_option linter.unusedVariables false
set_option linter.unusedSimpArgs false
section
namespace Go.Vx
open Go.RowKit
inductive Rt where
 | none
 | full
 | tip (b e c:Nat)
inductive AV where
 | val (v:nG)
 | list (r:Rt) (s:Nat) (es:List (List AV))
 | ro (cells:List AV)
 | agg (cells:List AV)
 | tup (vs:List AV)
 | any
def lim:Nat:=137438953472
def Py(r:Rt)(a:nM Addr)(n cap size:Nat):Prop :=
 match r with
 | .none=>True
 | .full=>cap=n
 | .tip b e c=>∃ o,a=some ⟨b,o,Option.none⟩/\o+n * size=e/\o+cap * size=c
inductive V (L:Nat->Nat->Prop) (w:World):AV->Value->Prop where
 | val (v:nG):V L w (.val v) v
 | any (v:nG):V L w .any v
 | agg (cs:List AV) (vs:List nG) (hl:cs.length=vs.length) (h:∀ (i:Nat) (c:AV) (v:nG),cs[i]?=some c->vs[i]?=some v->V L w c v):V L w (.agg cs) (.agg vs.toArray)
 | tup (cs:List AV) (vs:List nG) (hl:cs.length=vs.length) (h:∀ (i:Nat) (c:AV) (v:nG),cs[i]?=some c->vs[i]?=some v->V L w c v):V L w (.tup cs) (.tuple vs.toArray)
 | ro (cs:List AV) (b o:Nat) (rd:Nat->nG) (h1:∀ (j:Nat) (c:AV),cs[j]?=some c->¬ L b (o+j)/\w.cell? ⟨b,o+j,none⟩=some (rd j)/\(rd j).oneCell'=true)
  (h2:∀ (j:Nat) (c:AV),cs[j]?=some c->V L w c (rd j)):V L w (.ro cs) (.pointer (some ⟨b,o,none⟩))
 | list (r:Rt) (size:Nat) (es:List (List AV)) (cap:Nat) (a:nM Addr) (b o:Nat) (rd:Nat->nG)
  (hcap:es.length<=cap) (hlim:es.length<=lim) (hsz:∀ (i:Nat) (e:List AV),es[i]?=some e->e.length=size) (ha:es≠[]->a=some ⟨b,o,none⟩)
  (hr:Py r a es.length cap size)
  (h1:∀ (i:Nat) (e:List AV) (j:Nat) (c:AV),es[i]?=some e->e[j]?=some c->¬ L b (o+(i * size+j))/\w.cell? ⟨b,o+(i * size+j),none⟩=some (rd (i * size+j))/\(rd (i * size+j)).oneCell'=true)
  (h2:∀ (i:Nat) (e:List AV) (j:Nat) (c:AV),es[i]?=some e->e[j]?=some c->V L w c (rd (i * size+j))):V L w (.list r size es) (.slice a es.length cap)
theorem V.mono{L L':Nat->Nat->Prop}{w w':nH}(hL:∀ b o,b<w.heap.size->L' b o->L b o)
 (hc:∀ b o,b<w.heap.size->¬ L b o->w'.cell? ⟨b,o,none⟩=w.cell? ⟨b,o,none⟩) {a:AV} {v:nG} (h:V L w a v):V L' w' a v:=by
 induction h with
 | val v=>exact .val v
 | any v=>exact .any v
 | agg cs vs hl _ ih=>exact .agg cs vs hl ih
 | tup cs vs hl _ ih=>exact .tup cs vs hl ih
 | ro cs b o rd h1 _ ih =>
   refine .ro cs b o rd (fun j c hj=>?_) ih
   obtain⟨hn,hcell,h1c⟩:=h1 j c hj
   exact sD
 | list r size es cap a b o rd hcap hlim hsz ha hr h1 _ ih =>
   refine .list r size es cap a b o rd hcap hlim hsz ha hr (fun i e j c hi hj=>?_) ih
   obtain⟨hn,hcell,h1c⟩:=h1 i e j c hi hj
   exact sD
inductive AObj where
 | cells (cs:List AV)
 | tail (e c:Nat)
 | map (es:List (nG×AV×Nat)) (clock:Nat)
 | iter (m:nM Nat) (since:Nat) (seen:List Nat) (last:Nat)
 | raw (o:Obj)
abbrev Store:=List (Nat×AObj)
def AObj.liveAt:AObj->Nat->Prop
 | .tail e _,o=>e<=o
 | _,_=>True
def live(σ:Store)(b o:Nat):Prop:=∃ x,(b,x)∈σ/\x.liveAt o
def Store.get:Store->Nat->nM AObj
 | [],_=>none
 | (b',x)::r,b=>if b'=b then some x else Store.get r b
def Store.set:Store->Nat->AObj->Store
 | [],_,_=>[]
 | (b',x)::r,b,y=>if b'=b then(b',y)::r else(b',x)::Store.set r b y
def Store.del:Store->Nat->Store
 | [],_=>[]
 | (b',x)::r,b=>if b'=b then r else(b',x)::Store.del r b
def Zm:Store->Nat->Prop
 | [],_=>True
 | (b',_)::r,b=>b'≠b/\Zm r b
theorem ZU{σ:Store}{b:Nat}{x:AObj}(h:σ.get b=some x):(b,x)∈σ:=by
 induction σ with
 | nil=>simp[Store.get] at h
 | cons p r ih =>
   obtain⟨b',y⟩:=p
   simp only[Store.get] at h
   split at h
   ·rename_i hb;subst hb;injection h with h;subst h;exact ir
   ·exact kR _ (ih h)
theorem QX{σ:Store}{b:Nat}(h:∀ x,(b,x) ∉ σ):Zm σ b:=by
 induction σ with
 | nil=>trivial
 | cons p r ih =>
   obtain⟨b',y⟩:=p
   refine⟨fun e=>h y xW,ih fun x hx=>h x (kR _ hx)⟩
def Wf(L:Nat->Nat->Prop)(w:nH)(b:Nat):AObj->Prop
 | .cells cs=>∃ (vs:List nG) (T:nF),w.heap[b]?=some (.cells vs.toArray T (0,0))/\vs.length=cs.length/\∀ (i:Nat) (c:AV) (v:nG),cs[i]?=some c->vs[i]?=some v->V L w c v
 | .tail _ c=>∃ (vs:nN nG) (T:nF),w.heap[b]?=some (.cells vs T (0,0))/\c<=vs.size
 | .map es clock=>∃ (ms:List MapEntry),w.heap[b]?=some (.map ms.toArray clock)/\ms.length=es.length /\
  (∀ (i:Nat) (e:nG×AV×Nat) (m:MapEntry),es[i]?=some e->ms[i]?=some m->m.key=e.1/\m.born=e.2.2/\V L w e.2.1 m.val)/\(es.map (·.1)).Nodup/\(es.map (·.2.2)).Nodup/\∀ e∈es,e.2.2<clock
 | .iter m since seen last=>w.heap[b]?=some (.mapIter m since seen.toArray last)
 | .raw o=>w.heap[b]?=some o
structure Zq (σ:Store) (w:World):Prop where
 nodup:(σ.map (·.1)).Nodup
 obj:∀ b x,(b,x)∈σ->Wf (live σ) w b x
structure Ev (σ:Store) (w:World) (σ':Store) (w':World):Prop where
 os:w'.os=w.os
 tape:w'.tape=w.tape
 output:w'.output=w.output
 size:w.heap.size<=w'.heap.size
 cell:∀ b o,b<w.heap.size->¬ live σ b o->w'.cell? ⟨b,o,none⟩=w.cell? ⟨b,o,none⟩
 obj:∀ b,b<w.heap.size->(∀ o,¬ live σ b o)->w'.heap[b]?=w.heap[b]?
 live:∀ b o,b<w.heap.size->live σ' b o->live σ b o
 drawn:w.drawn<=w'.drawn
theorem Ev.refl(σ:Store)(w:nH):Ev σ w σ w:=⟨rfl,rfl,rfl,kO _,fun _ _ _ _=>rfl,fun _ _ _=>rfl,fun _ _ _ h=>h,kO _⟩
theorem Ev.trans{σ σ1 σ2:Store}{w w1 w2:nH}(h:Ev σ w σ1 w1)(k:Ev σ1 w1 σ2 w2):Ev σ w σ2 w2 where
 os:=k.os.trans h.os
 tape:=k.tape.trans h.tape
 output:=k.output.trans h.output
 size:=lj h.size k.size
 cell b o hb hn:=(k.cell b o (jJ hb h.size) (fun hl=>hn (h.live b o hb hl))).trans (h.cell b o hb hn)
 obj b hb hn:=(k.obj b (jJ hb h.size) (fun o hl=>hn o (h.live b o hb hl))).trans (h.obj b hb hn)
 live b o hb hl:=h.live b o hb (k.live b o (jJ hb h.size) hl)
 drawn:=lj h.drawn k.drawn
theorem V.ev{σ σ':Store}{w w':nH}{a:AV}{v:nG}(h:V (live σ) w a v)(e:Ev σ w σ' w'):V (live σ') w' a v :=
 h.mono e.live (fun b o hb hn=>e.cell b o hb hn)
theorem Ev.drew(σ:Store)(w:nH):Ev σ w σ { w with drawn:=w.drawn+1 }:=⟨rfl,rfl,rfl,kO _,fun _ _ _ _=>rfl,fun _ _ _=>rfl,fun _ _ _ h=>h,lk _⟩
theorem Wf.drew{L:Nat->Nat->Prop}{w:nH}{b:Nat}{x:AObj}(h:Wf L w b x):Wf L { w with drawn:=w.drawn+1 } b x:=by
 have m:∀ a v,V L w a v->V L { w with drawn:=w.drawn+1 } a v:=fun a v h=>V.mono (L:=L) (w:=w) (L':=L) (w':={ w with drawn:=w.drawn+1 }) (fun _ _ _ h=>h) (fun _ _ _ _=>rfl) h
 cases x with
 | cells cs=>obtain⟨vs,T,h1,h2,h3⟩:=h;exact⟨vs,T,h1,h2,fun i c v hc hv=>m _ _ (h3 i c v hc hv)⟩
 | tail e c=>exact h
 | map es cl=>obtain⟨ms,h1,h2,h5,h6⟩:=h;exact⟨ms,h1,h2,fun i e q he hm=>⟨(h5 i e q he hm).1,(h5 i e q he hm).2.1,m _ _ (h5 i e q he hm).2.2⟩,h6⟩
 | iter _ _ _ _=>exact h
 | raw _=>exact h
theorem Zq.drew{σ:Store}{w:nH}(h:Zq σ w):Zq σ { w with drawn:=w.drawn+1 } :=
 ⟨h.nodup,fun b x hx=>(h.obj b x hx).drew⟩
theorem Wf.lt{L:Nat->Nat->Prop}{w:nH}{b:Nat}{x:AObj}(h:Wf L w b x):b<w.heap.size:=by
 have key:∀ o,w.heap[b]?=some o->b<w.heap.size:=fun o ho=>(Array.getElem?_eq_some_iff.1 ho).1
 cases x with
 | cells cs=>obtain⟨vs,T,h1,_⟩:=h;exact key _ h1
 | tail e c=>obtain⟨vs,T,h1,_⟩:=h;exact key _ h1
 | map es cl=>obtain⟨ms,h1,_⟩:=h;exact key _ h1
 | iter _ _ _ _=>exact key _ h
 | raw _=>exact key _ h
theorem Zq.fresh{σ:Store}{w:nH}(h:Zq σ w){b:Nat}(hb:w.heap.size<=b):Zm σ b :=
 QX fun x hx=>by have:=(h.obj b x hx).lt;omega
theorem Ng{σ:Store}{w:nH}(h:Zq σ w){b o:Nat}(hl:live σ b o):b<w.heap.size:=by
 obtain⟨x,hx,_⟩:=hl;exact(h.obj b x hx).lt
open Go.RowKit
abbrev Fr:=Nat->AV
def Fr.put(fr:Fr)(d:Nat)(v:AV):Fr:=fun i=>if i=d then v else fr i
def Fr.putO(fr:Fr):nM Nat->AV->Fr
 | some d,v=>fr.put d v
 | none,_=>fr
def dq:nG->AV
 | .slice none 0 0=>.list .full 0 []
 | v=>.val v
def dL:nG->AV
 | .agg cs=>.agg (cs.toList.map dq)
 | .tuple cs=>.tup (cs.toList.map dq)
 | v=>dq v
def AV.cells:AV->nM (List AV)
 | .agg cs=>some cs
 | .tup _=>none
 | .any=>none
 | .val v=>if v.oneCell' then some [.val v] else none
 | .list r s es=>some [.list r s es]
 | .ro cs=>some [.ro cs]
def AV.one:AV->Bool
 | .val v=>v.oneCell'
 | .list _ _ _=>true
 | .ro _=>true
 | _=>false
def dK:List AV->nM (List nG)
 | []=>some []
 | .val v::r=>match dK r with
   | some vs=>some (v::vs)
   | none=>none
 | _::_=>none
def AV.toVal:AV->nM nG
 | .val v=>some v
 | .agg cs=>match dK cs with
   | some vs=>some (.agg vs.toArray)
   | none=>none
 | _=>none
def Fr.ev(fr:Fr):nJ->AV
 | .tmp t=>fr t
 | .const v=>dL v
 | .global g=>.val (.pointer (some ⟨g,0,none⟩))
 | .func f=>.val (.func (.func f) #[] #[])
inductive ZE where
 | ret (v:AV)
 | pan (v:nG)
theorem eU(L:Nat->Nat->Prop)(w:nH)(v:nG):V L w (dq v) v:=by
 unfold dq
 split
 ·exact V.list (b:=0) (o:=0) .full 0 [] 0 none (rd:=fun _=>.nilFunc) xf (by simp[lim]) xf xf rfl xf xf
 ·exact .val _
theorem eX(L:Nat->Nat->Prop)(w:nH)(v:nG):V L w (dL v) v:=by
 cases v with
 | agg cs =>
   refine V.agg (cs.toList.map dq) cs.toList xf (fun i c v hc hv=>?_)
   exact sw
 | tuple cs =>
   refine V.tup (cs.toList.map dq) cs.toList xf (fun i c v hc hv=>?_)
   exact sw
 | _=>simp only[dL];exact eU _ _ _
structure XM (n:Nat) (L:Nat->Nat->Prop) (w:World) (fr:Fr) (tmps:Array Value):Prop where
 size:tmps.size=n
 slot:∀ i,i<n->V L w (fr i) (tmps.getD i undef)
theorem XM.ev{n:Nat}{σ σ':Store}{w w':nH}{fr:Fr}{tmps:nN nG}(h:XM n (live σ) w fr tmps)(e:Ev σ w σ' w'):XM n (live σ') w' fr tmps :=
 ⟨h.size,fun i hi=>(h.slot i hi).ev e⟩
theorem XM.put{n:Nat}{L:Nat->Nat->Prop}{w:nH}{fr:Fr}{a:Act}(h:XM n L w fr a.tmps){d:nM Nat}(hd:∀ k,d=some k->k<n){av:AV}{v:nG}(hv:V L w av v) :
 XM n L w (fr.putO d av) (a.put d v).tmps:=by
 cases d with
 | none=>exact h
 | some k =>
   have hk:=hd k rfl
   refine⟨by simp[Act.put,h.size],fun i hi=>?_⟩
   by_cases e:i=k
   ·subst e
    have:i<a.tmps.size:=by rw[h.size];exact hi
    simpa[Fr.putO,Fr.put,Act.put,jO,this] using hv
   ·have:=h.slot i hi
    simpa[Fr.putO,Fr.put,e,Act.put,jO,lw,iC e] using this
def dT(n:Nat):nJ->Bool
 | .tmp t=>t<n
 | _=>true
theorem XM.operand{n:Nat}{L:Nat->Nat->Prop}{w:nH}{fr:Fr}{a:Act}(h:XM n L w fr a.tmps){x:nJ}(hx:dT n x=true):V L w (fr.ev x) (a.eval x):=by
 cases x with
 | tmp t=>exact h.slot t (by simpa[dT] using hx)
 | const v=>exact eX _ _ _
 | global g=>exact V.val _
 | func f=>exact V.val _
def ZB(P:nE)(T:nF):nM Nat:=(P.info? T).map (·.size)
def ZF(P:nE)(T:nF):nM Bool:=(P.underlying T).map fun|.struct _|.array _ _=>true|_=>false
def Zy(P:nE)(T:nF):nM nG:=(P.info? T).bind (·.zero)
def Yf(P:nE)(T:nF):nM nF:=match P.underlying T with|some (.slice e)=>some e|_=>none
def ZY(P:nE)(T:nF):nM Nat:=(P.info? T).map (·.bytes)
def ZG(P:nE)(s:nF)(f:Nat):nM Nat :=
 match P.underlying s with
 | some (.struct fs)=>(fs[f]?).bind fun fl=>match ZB P fl.type with|some (_+1)=>some fl.offset|_=>none
 | _=>none
def fTy(P:nE)(s:nF)(f:Nat):nM (Nat×nF) :=
 match P.underlying s with
 | some (.struct fs)=>(fs[f]?).map fun fl=>(fl.offset,fl.type)
 | _=>none
def YV(P:nE)(f:nL):Bool :=
 match P.funcs[f]? with
 | some fn=>fn.name != "runtime.NumGoroutine"&&fn.body.isSome
 | none=>false
theorem Z8{P:nE}{T n:Nat}(h:ZB P T=some n)(w:nH):(sizeOf T).run P w=.ok n w:=by
 unfold ZB at h
 simp only[kQ] at h
 obtain⟨i,hi,rfl⟩:=h
 simp[sizeOf,typeInfo,hi]
theorem V3{P:nE}{T:Nat}{b:Bool}(h:ZF P T=some b)(w:nH):(isAgg T).run P w=.ok b w:=by
 unfold ZF at h
 simp only[kQ] at h
 obtain⟨d,hd,rfl⟩:=h
 simp only[isAgg,jZ,kB hd,kC]
 cases d<;>rfl
theorem WV{P:nE}{T:Nat}{z:nG}(h:Zy P T=some z)(w:nH):(zeroValue T).run P w=.ok z w:=by
 unfold Zy at h
 simp only[lz] at h
 obtain⟨i,hi,hz⟩:=h
 simp[zeroValue,typeInfo,hi,hz]
theorem XN{P:nE}{f:nL}(h:YV P f=true)(args:nN nG)(w:nH):(callFunc f args).run P w=.ok (.enter f args) w:=by
 unfold YV at h
 cases hf:P.funcs[f]? with
 | none=>simp[hf] at h
 | some fn =>
   simp only[hf,kJ,bne_iff_ne,ne_eq] at h
   obtain⟨h1,h2⟩:=h
   have h3:fn.body.isNone=false:=by cases hb:fn.body<;>simp_all
   simp only[callFunc,jZ,run_program,kC,hf,h3]
   rw[ig (by simpa using h1)]
   rfl
def VU(P:nE)(T:nF)(cs:List AV):nM AV :=
 match ZF P T,ZB P T with
 | some true,some n=>if n<=cs.length then some (.agg (cs.take n)) else none
 | some false,some _=>cs.head?
 | _,_=>none
theorem YC(b o n:Nat):(⟨b,o,none⟩:Addr).add n=⟨b,o+n,none⟩:=by unfold Addr.add;split<;>simp_all
theorem Sc{P:nE}{T:nF}{L:Nat->Nat->Prop}{w:nH}{b o:Nat}{cs:List AV}{av:AV}(h:VU P T cs=some av)
 (hc:∀ (j:Nat) (c:AV),cs[j]?=some c->∃ v,w.cell? ⟨b,o+j,none⟩=some v/\V L w c v):∃ v,(loadVar T ⟨b,o,none⟩).run P w=.ok v w/\V L w av v:=by
 unfold VU at h
 split at h
 ·rename_i n ha hs
  split at h
  ·rename_i hn
   injection h with h
   subst h
   have hex:∀ j:Nat,∃ v:nG,∀ c,(cs.take n)[j]?=some c->w.cell? ⟨b,o+j,none⟩=some v/\V L w c v:=by
    intro j
    by_cases hj:j<n
    ·have hj':j<cs.length:=by omega
     obtain⟨v,h1,h2⟩:=hc j cs[j] (iO hj')
     refine⟨v,fun c hcj=>?_⟩
     rw[jF hj,iO hj'] at hcj
     injection hcj with hcj
     subst hcj
     exact⟨h1,h2⟩
    ·exact⟨.nilFunc,fun c hcj=>by simp[lA,hj] at hcj⟩
   let f:=fun j=>(hex j).choose
   have hf:∀ j c,(cs.take n)[j]?=some c->w.cell? ⟨b,o+j,none⟩=some (f j)/\V L w c (f j):=fun j=>(hex j).choose_spec
   refine⟨.agg ((List.range n).map f).toArray,?_,?_⟩
   ·have hl:=run_loadCells_list (P:=P) (w:=w) ⟨b,o,none⟩ ((List.range n).map f) (fun j v hj=>by
     simp only[jp,kQ] at hj
     obtain⟨k,hk,rfl⟩:=hj
     have hkn:j<n:=by
      have:=(List.getElem?_eq_some_iff.1 hk).1
      simpa using this
     simp[lB hkn] at hk
     subst hk
     rw[YC]
     exact(hf j cs[j] (by rw[jF hkn];exact iO xh)).1)
    simp only[io,List.length_range] at hl
    simp only[loadVar,jZ,V3 ha,Z8 hs,kC,iE,hl,kf]
   ·refine V.agg _ _ xz (fun i c v hci hvi=>?_)
    simp only[jp,kQ] at hvi
    obtain⟨k,hk,rfl⟩:=hvi
    have hkn:i<n:=by
     have:=(List.getElem?_eq_some_iff.1 hk).1
     simpa using this
    simp[lB hkn] at hk
    subst hk
    exact(hf i c hci).2
  ·cases h
 ·rename_i n ha hs
  cases cs with
  | nil=>simp at h
  | cons c r =>
    simp at h
    subst h
    obtain⟨v,h1,h2⟩:=hc 0 c rfl
    simp only[iw] at h1
    exact⟨v,by simp[loadVar,V3 ha,h1],h2⟩
 ·cases h
open Go.RowKit
theorem UU(w:nH)(o:Obj)(a:Addr)(h:a.block<w.heap.size):(w.alloc o).cell? a=w.cell? a :=
 World.cell?_of_block (w:=w) (lC w o a.block h)
theorem Ev.alloc{σ:Store}{w:nH}(hσ:Zq σ w)(o:Obj)(x:AObj):Ev σ w ((w.heap.size,x)::σ) (w.alloc o) where
 os:=rfl
 tape:=rfl
 output:=rfl
 size:=by show _<=(w.heap.push o).size;simp
 cell b o' hb _:=UU w o ⟨b,o',none⟩ hb
 obj b hb _:=lC w o b hb
 drawn:=kO _
 live b o' hb hl:=by
  obtain⟨y,hy,hl⟩:=hl
  simp only[lD,lE] at hy
  rcases hy with⟨rfl,_⟩|hy
  ·omega
  ·exact⟨y,hy,hl⟩
theorem Ev.alloc0{σ:Store}{w:nH}(o:Obj):Ev σ w σ (w.alloc o) where
 os:=rfl
 tape:=rfl
 output:=rfl
 size:=by show _<=(w.heap.push o).size;simp
 cell b o' hb _:=UU w o ⟨b,o',none⟩ hb
 obj b hb _:=lC w o b hb
 live _ _ _ hl:=hl
 drawn:=kO _
theorem Wf.keep{L L':Nat->Nat->Prop}{w w':nH}{b:Nat}{x:AObj}(h:Wf L w b x)(hb:w'.heap[b]?=w.heap[b]?)(m:∀ a v,V L w a v->V L' w' a v):Wf L' w' b x:=by
 cases x with
 | cells cs=>obtain⟨vs,T,h1,h2,h3⟩:=h;exact⟨vs,T,hb.trans h1,h2,fun i c v hc hv=>m _ _ (h3 i c v hc hv)⟩
 | tail e c=>obtain⟨vs,T,h1,h2⟩:=h;exact⟨vs,T,hb.trans h1,h2⟩
 | map es cl=>obtain⟨ms,h1,h2,h5,h6⟩:=h;exact⟨ms,hb.trans h1,h2,fun i e q he hm=>⟨(h5 i e q he hm).1,(h5 i e q he hm).2.1,m _ _ (h5 i e q he hm).2.2⟩,h6⟩
 | iter _ _ _ _=>exact hb.trans h
 | raw _=>exact hb.trans h
theorem Zq.keep{σ:Store}{w w':nH}(h:Zq σ w)(e:Ev σ w σ w')(hb:∀ b x,(b,x)∈σ->w'.heap[b]?=w.heap[b]?):Zq σ w' :=
 ⟨h.nodup,fun b x hx=>(h.obj b x hx).keep (hb b x hx) (fun _ _ hv=>hv.ev e)⟩
theorem Zq.alloc0{σ:Store}{w:nH}(h:Zq σ w)(o:Obj):Zq σ (w.alloc o) :=
 h.keep (Ev.alloc0 o) (fun b x hx=>lC w o b (h.obj b x hx).lt)
theorem Xb(w:nH)(o:Obj):(w.alloc o).heap[w.heap.size]?=some o:=by
 show(w.heap.push o)[w.heap.size]?=_
 simp
theorem Zq.alloc{σ:Store}{w:nH}(h:Zq σ w)(o:Obj)(x:AObj)(hx:Wf (live ((w.heap.size,x)::σ)) (w.alloc o) w.heap.size x):Zq ((w.heap.size,x)::σ) (w.alloc o):=by
 have e:=Ev.alloc h o x
 refine⟨?_,fun b y hy=>?_⟩
 ·simp only[iR,lF]
  refine⟨fun hm=>?_,h.nodup⟩
  simp only[kK] at hm
  obtain⟨⟨b,y⟩,hy,hb⟩:=hm
  have:=(h.obj b y hy).lt
  simp at hb
  omega
 ·simp only[lD,lE] at hy
  rcases hy with⟨rfl,rfl⟩|hy
  ·exact hx
  ·exact(h.obj b y hy).keep (lC w o b (h.obj b y hy).lt) (fun _ _ hv=>hv.ev e)
theorem JX{σ:Store}{b:Nat}{y:AObj}:∀ {b':Nat} {z:AObj},(b',z)∈σ.set b y->(b'=b/\z=y)\/(b',z)∈σ:=by
 induction σ with
 | nil=>intro b' z h;simp[Store.set] at h
 | cons p r ih =>
   obtain⟨c,x⟩:=p
   intro b' z h
   simp only[Store.set] at h
   split at h
   ·rename_i hc
    simp only[lD,lE] at h
    rcases h with⟨rfl,rfl⟩|h
    ·exact .inl ⟨hc,rfl⟩
    ·exact .inr (kR _ h)
   ·simp only[lD,lE] at h
    rcases h with⟨rfl,rfl⟩|h
    ·exact .inr ir
    ·rcases ih h with h|h
     ·exact .inl h
     ·exact .inr (kR _ h)
theorem Ql(σ:Store)(b:Nat)(y:AObj):(σ.set b y).map (·.1)=σ.map (·.1):=by
 induction σ with
 | nil=>rfl
 | cons p r ih=>obtain⟨c,x⟩:=p;simp only[Store.set];split<;>simp_all
theorem Qx{σ:Store}(hn:(σ.map (·.1)).Nodup){b:Nat}{x y:AObj}(hx:(b,x)∈σ)(hy:(b,y)∈σ):x=y:=by
 induction σ with
 | nil=>simp at hx
 | cons p r ih =>
   simp only[iR,lF] at hn
   simp only[lD] at hx hy
   rcases hx with rfl|hx<;>rcases hy with hy|hy
   ·injection hy with _ h;exact h.symm
   ·exact absurd (iB (f:=(·.1)) hy) hn.1
   ·subst hy;exact absurd (iB (f:=(·.1)) hx) hn.1
   ·exact ih hn.2 hx hy
theorem TP{σ:Store}{b:Nat}{y:AObj}{b':Nat}{z:AObj}(h:(b',z)∈σ)(hne:b'≠b):(b',z)∈σ.set b y:=by
 induction σ with
 | nil=>simp at h
 | cons p r ih =>
   obtain⟨c,x⟩:=p
   simp only[Store.set]
   simp only[lD,lE] at h
   split
   ·rename_i hc
    rcases h with⟨rfl,rfl⟩|h
    ·exact absurd hc hne
    ·exact kR _ h
   ·rcases h with⟨rfl,rfl⟩|h
    ·exact ir
    ·exact kR _ (ih h)
theorem T9{σ:Store}{b:Nat}{x y:AObj}(h:σ.get b=some x):(b,y)∈σ.set b y:=by
 induction σ with
 | nil=>simp[Store.get] at h
 | cons p r ih =>
   obtain⟨c,z⟩:=p
   simp only[Store.get] at h
   simp only[Store.set]
   split
   ·rename_i hc;subst hc;exact ir
   ·rename_i hc;rw[ig hc] at h;exact kR _ (ih h)
theorem T8{σ:Store}(hn:(σ.map (·.1)).Nodup){b:Nat}{y z:AObj}{x:AObj}(hb:σ.get b=some x)(h:(b,z)∈σ.set b y):z=y :=
 Qx (by rw[Ql];exact hn) h (T9 hb)
theorem QD{σ:Store}(hn:(σ.map (·.1)).Nodup){b:Nat}{x y:AObj}(hb:σ.get b=some x)(hxy:y.liveAt=x.liveAt):live (σ.set b y)=live σ:=by
 funext b' o
 refine propext ⟨fun⟨z,hz,hl⟩=>?_,fun⟨z,hz,hl⟩=>?_⟩
 ·by_cases e:b'=b
  ·subst e
   rw[T8 hn hb hz] at hl
   exact⟨x,ZU hb,hxy ▸ hl⟩
  ·rcases JX hz with⟨h,_⟩|h
   ·exact absurd h e
   ·exact⟨z,h,hl⟩
 ·by_cases e:b'=b
  ·subst e
   rw[Qx hn hz (ZU hb)] at hl
   exact⟨y,T9 hb,hxy ▸ hl⟩
  ·exact⟨z,TP hz e,hl⟩
theorem Ev.turn{σ σ':Store}{w w':nH}{b:Nat}(hl:∀ b' o,b'<w.heap.size->Vx.live σ' b' o->Vx.live σ b' o)(os:w'.os=w.os)(tape:w'.tape=w.tape)(output:w'.output=w.output)(size:w'.heap.size=w.heap.size)
 (hb:∀ b',b'≠b->w'.heap[b']?=w.heap[b']?) (hc:∀ o,¬ Vx.live σ b o->w'.cell? ⟨b,o,none⟩=w.cell? ⟨b,o,none⟩) (hx:∃ o,Vx.live σ b o) (dr:w.drawn<=w'.drawn):Ev σ w σ' w' where
 drawn:=dr
 os:=os
 tape:=tape
 output:=output
 size:=by omega
 cell b' o hb' hn:=by
  by_cases e:b'=b
  ·subst e;exact hc o hn
  ·exact World.cell?_of_block (w:=w) (hb b' e)
 obj b' hb' hn:=by
  by_cases e:b'=b
  ·subst e;obtain⟨o,ho⟩:=hx;exact absurd ho (hn o)
  ·exact hb b' e
 live:=hl
theorem Zq.set{σ:Store}{w w':nH}{b:Nat}{x y:AObj}(h:Zq σ w)(hb:σ.get b=some x)(e:Ev σ w (σ.set b y) w')
 (hk:∀ b',b'≠b->w'.heap[b']?=w.heap[b']?) (hy:Wf (live (σ.set b y)) w' b y):Zq (σ.set b y) w':=by
 refine⟨by rw[Ql];exact h.nodup,fun b' z hz=>?_⟩
 by_cases e':b'=b
 ·subst e';rw[T8 h.nodup hb hz];exact hy
 ·rcases JX hz with⟨h',_⟩|h'
  ·exact absurd h' e'
  ·exact(h.obj b' z h').keep (hk b' e') (fun _ _ hv=>hv.ev e)
def Sub:Store->Store->Prop
 | σ',σ=>(∀ p,p∈σ'->p∈σ)/\((σ.map (·.1)).Nodup->(σ'.map (·.1)).Nodup)
theorem Sub.refl(σ:Store):Sub σ σ:=⟨fun _ h=>h,fun h=>h⟩
theorem Sub.cons(σ:Store)(p:Nat×AObj):Sub σ (p::σ):=⟨fun _ h=>kR _ h,fun h=>by simp only[iR,lF] at h;exact h.2⟩
theorem Sub.trans{a b c:Store}(h:Sub a b)(k:Sub b c):Sub a c:=⟨fun p hp=>k.1 p (h.1 p hp),fun hn=>h.2 (k.2 hn)⟩
theorem Sub.skip{a b:Store}(p:Nat×AObj)(h:Sub a b):Sub a (p::b):=h.trans (Sub.cons b p)
theorem Sub.live{σ' σ:Store}(h:Sub σ' σ){b o:Nat}(hl:live σ' b o):live σ b o:=let ⟨x,hx,k⟩:=hl;⟨x,h.1 _ hx,k⟩
theorem Sub.ev{σ' σ:Store}(h:Sub σ' σ)(w:nH):Ev σ w σ' w:=⟨rfl,rfl,rfl,kO _,fun _ _ _ _=>rfl,fun _ _ _=>rfl,fun _ _ _ hl=>h.live hl,kO _⟩
theorem Zq.sub{σ' σ:Store}{w:nH}(k:Zq σ w)(h:Sub σ' σ):Zq σ' w :=
 ⟨h.2 k.nodup,fun b x hx=>(k.obj b x (h.1 _ hx)).keep rfl (fun _ _ hv=>hv.ev (h.ev w))⟩
def Wk(a a':AV):Prop:=∀ L w v,V L w a v->V L w a' v
theorem Wk.refl(a:AV):Wk a a:=fun _ _ _ h=>h
theorem Wk.any(a:AV):Wk a .any:=fun _ _ v _=>.any v
theorem Wk.trans{a b c:AV}(h:Wk a b)(k:Wk b c):Wk a c:=fun L w v x=>k L w v (h L w v x)
theorem Wk.list(r:Rt)(s:Nat)(es:List (List AV)):Wk (.list r s es) (.list .none s es):=fun L w v h=>by
 cases h with
 | list _ _ _ cap a b o rd hcap hlim hsz ha hr h1 h2=>exact .list .none s es cap a b o rd hcap hlim hsz ha trivial h1 h2
theorem Wk.nil(s s':Nat):Wk (.list .full s []) (.list .full s' []):=fun L w v h=>by
 cases h with
 | list _ _ _ cap a b o rd hcap hlim hsz ha hr h1 h2=>exact .list .full s' [] cap a b o rd hcap hlim xf ha hr xf xf
theorem Wk.agg{cs cs':List AV}(hl:cs.length=cs'.length)(h:∀ (i:Nat) (c c':AV),cs[i]?=some c->cs'[i]?=some c'->Wk c c'):Wk (.agg cs) (.agg cs'):=fun L w v hv=>by
 cases hv with
 | agg _ vs hvl hh =>
   refine .agg cs' vs xh (fun i c v hc hv=>?_)
   exact rL
theorem Wk.tup{cs cs':List AV}(hl:cs.length=cs'.length)(h:∀ (i:Nat) (c c':AV),cs[i]?=some c->cs'[i]?=some c'->Wk c c'):Wk (.tup cs) (.tup cs'):=fun L w v hv=>by
 cases hv with
 | tup _ vs hvl hh =>
   refine .tup cs' vs xh (fun i c v hc hv=>?_)
   exact rL
def Xq(v:AV)(σ:Store)(v':AV)(σ':Store):Prop:=∀ w x,Zq σ w->V (live σ) w v x->V (live σ') w v' x/\Zq σ' w/\Ev σ w σ' w
theorem Xq.of{v v':AV}{σ σ':Store}(h:Wk v v')(s:Sub σ' σ):Xq v σ v' σ':=fun w x ho hv=>⟨V.ev (h _ _ _ hv) (s.ev w),ho.sub s,s.ev w⟩
open Go.RowKit
def BX(σ:Store)(w:nH)(K:ZE->Store->Prop):Result nG->Prop
 | .ok v w'=>∃ av σ',K (.ret av) σ'/\V (live σ') w' av v/\Zq σ' w'/\Ev σ w σ' w'
 | .halt (.panic v) w'=>∃ σ',K (.pan v) σ'/\Zq σ' w'/\Ev σ w σ' w'
 | _=>False
theorem BX.val{σ:Store}{w:nH}{K:ZE->Store->Prop}{av:AV}{v:nG}(hσ:Zq σ w)(hk:K (.ret av) σ)(hv:V (live σ) w av v):BX σ w K (.ok v w) :=
 ⟨av,σ,hk,hv,hσ,Ev.refl _ _⟩
theorem V.cells_of{L:Nat->Nat->Prop}{w:nH}{a:AV}{v:nG}{cs:List AV}(h:V L w a v)(hc:a.cells=some cs) :
 v.cells.toList.length=cs.length/\∀ (i:Nat) (c:AV) (x:nG),cs[i]?=some c->v.cells.toList[i]?=some x->V L w c x:=by
 have one:∀ (c:AV) (x:nG),x.oneCell'=true->V L w c x->x.cells.toList.length=[c].length/\∀ (i:Nat) (d:AV) (y:nG),[c][i]?=some d->x.cells.toList[i]?=some y->V L w d y:=by
  intro c x hx hv
  have:x.cells=#[x]:=by cases x<;>first|rfl|simp[Value.oneCell'] at hx
  rw[this]
  refine⟨rfl,fun i d y hd hy=>?_⟩
  cases i with
  | zero=>simp at hd hy;subst hd;subst hy;exact hv
  | succ i=>simp at hd
 cases h with
 | val v =>
   simp only[AV.cells] at hc
   split at hc
   ·rename_i h1;injection hc with hc;subst hc;exact one _ _ h1 (.val v)
   ·cases hc
 | any v=>simp[AV.cells] at hc
 | agg cs' vs hl h=>simp only[AV.cells] at hc;injection hc with hc;subst hc;exact⟨by simp[Value.cells,hl],fun i c x hc hx=>h i c x hc (by simpa[Value.cells] using hx)⟩
 | tup=>simp[AV.cells] at hc
 | ro cs' b o rd h1 h2=>simp only[AV.cells] at hc;injection hc with hc;subst hc;exact one _ _ rfl (.ro cs' b o rd h1 h2)
 | list r s es cap a b o rd hcap hlim hsz ha hr h1 h2=>simp only[AV.cells] at hc;injection hc with hc;subst hc;exact one _ _ rfl (.list r s es cap a b o rd hcap hlim hsz ha hr h1 h2)
theorem V.one_of{L:Nat->Nat->Prop}{w:nH}{a:AV}{v:nG}(h:V L w a v)(h1:a.one=true):v.oneCell'=true:=by
 cases h with
 | val v=>exact h1
 | any v=>simp[AV.one] at h1
 | agg=>simp[AV.one] at h1
 | tup=>simp[AV.one] at h1
 | ro=>rfl
 | list=>rfl
theorem fZ{σ:Store}{w:nH}(hσ:Zq σ w){cs:List AV}{vs:List nG}(T:nF)(hl:vs.length=cs.length)
 (h:∀ (i:Nat) (c:AV) (x:nG),cs[i]?=some c->vs[i]?=some x->V (live σ) w c x) (h1:cs.all AV.one=true) :
 V (live σ) (w.alloc (.cells vs.toArray T)) (.ro cs) (.pointer (some ⟨w.heap.size,0,none⟩)):=by
 refine .ro cs w.heap.size 0 (fun j=>vs.getD j .nilFunc) (fun j c hj=>?_) (fun j c hj=>?_)
 ·have hj':j<vs.length:=by have:=(List.getElem?_eq_some_iff.1 hj).1;omega
  refine⟨fun hl=>absurd (Ng hσ hl) xh,?_,?_⟩
  ·unfold World.cell?;simp only[Xb];simp[hj']
  ·have hv:=h j c vs[j] hj (iO hj')
   have:=hv.one_of (List.all_eq_true.1 h1 c (iG hj))
   simpa[hj'] using this
 ·have hj':j<vs.length:=by have:=(List.getElem?_eq_some_iff.1 hj).1;omega
  have hv:=h j c vs[j] hj (iO hj')
  have:=hv.ev (Ev.alloc0 (σ:=σ) (w:=w) (.cells vs.toArray T))
  simpa[hj'] using this
theorem ej{L:Nat->Nat->Prop}{w:nH}{cs:List AV}{vs:List nG}(T:nF)(hl:vs.length=cs.length)
 (h:∀ (i:Nat) (c:AV) (x:nG),cs[i]?=some c->vs[i]?=some x->V L (w.alloc (.cells vs.toArray T)) c x):Wf L (w.alloc (.cells vs.toArray T)) w.heap.size (.cells cs) :=
 ⟨vs,T,Xb w _,hl,h⟩
def Px(mu:Bool)(cs:List AV)(σ:Store)(K:ZE->Store->Prop):Prop :=
 if mu then ∀ b,Zm σ b->K (.ret (.val (.pointer (some ⟨b,0,none⟩)))) ((b,.cells cs)::σ)
 else cs.all AV.one=true/\K (.ret (.ro cs)) σ
theorem Pw{mu:Bool}{cs:List AV}{σ:Store}{K:ZE->Store->Prop}{w:nH}(h:Px mu cs σ K)(hσ:Zq σ w)(T:nF){vs:List nG}(hl:vs.length=cs.length)
 (hv:∀ (i:Nat) (c:AV) (x:nG),cs[i]?=some c->vs[i]?=some x->V (live σ) w c x):BX σ w K (.ok (.pointer (some ⟨w.heap.size,0,none⟩)) (w.alloc (.cells vs.toArray T))):=by
 unfold Px at h
 split at h
 ·have e:=Ev.alloc hσ (.cells vs.toArray T) (.cells cs)
  exact⟨_,_,h w.heap.size (hσ.fresh (kO _)),.val _,hσ.alloc _ _ (ej T hl (fun i c x hc hx=>(hv i c x hc hx).ev e)),e⟩
 ·exact⟨_,_,h.2,fZ hσ T hl hv h.1,hσ.alloc0 _,Ev.alloc0 _⟩
def We(P:nE)(T:nF)(p:AV)(σ:Store)(K:AV->Prop):Prop :=
 match p with
 | .ro cs=>match VU P T cs with
   | some v=>K v
   | none=>False
 | .val (.pointer (some ⟨b,o,none⟩))=>match σ.get b with
   | some (.cells cs)=>match VU P T (cs.drop o) with
     | some v=>K v
     | none=>False
   | _=>False
 | _=>False
theorem RT{P:nE}{T:nF}{p:AV}{σ:Store}{K:AV->Prop}{w:nH}{v:nG}(h:We P T p σ K)(hσ:Zq σ w)(hp:V (live σ) w p v) :
 ∃ x av,(Instr.loadAt T v).run P w=.ok x w/\V (live σ) w av x/\K av:=by
 unfold We at h
 split at h
 ·rename_i cs
  split at h
  ·rename_i av hav
   cases hp with
   | ro _ b o rd h1 h2 =>
     obtain⟨x,hr,hx⟩:=Sc (P:=P) (T:=T) (w:=w) (b:=b) (o:=o) hav (fun j c hj=>⟨rd j,(h1 j c hj).2.1,h2 j c hj⟩)
     exact⟨x,av,by simpa[Instr.loadAt,Instr.sureAddr] using hr,hx,h⟩
  ·exact h.elim
 ·rename_i b o
  cases hp
  split at h
  ·rename_i cs hg
   split at h
   ·rename_i av hav
    obtain⟨vs,T',hb,hl,hc⟩:=hσ.obj b _ (ZU hg)
    obtain⟨x,hr,hx⟩:=Sc (P:=P) (T:=T) (L:=live σ) (w:=w) (b:=b) (o:=o) hav (fun j c hj=>by
     rw[ku] at hj
     have hlt:o+j<vs.length:=by have:=(List.getElem?_eq_some_iff.1 hj).1;omega
     exact⟨vs[o+j],by simp[World.cell?,hb,hlt],hc (o+j) c vs[o+j] hj (iO hlt)⟩)
    exact⟨x,av,by simpa[Instr.loadAt,Instr.sureAddr] using hr,hx,h⟩
   ·exact h.elim
  ·exact h.elim
 ·exact h.elim
def Yn(cs:List AV)(o:Nat)(vs:List AV):List AV:=cs.take o++(vs++cs.drop (o+vs.length))
def UV(P:nE)(T:nF)(p v:AV)(σ:Store)(K:Store->Prop):Prop :=
 match p,v.cells,ZB P T with
 | .val (.pointer (some ⟨b,o,none⟩)),some vs,some n=>match σ.get b with
   | some (.cells cs)=>vs.length=n/\vs.all AV.one=true/\o+n<=cs.length/\K (σ.set b (.cells (Yn cs o vs)))
   | _=>False
 | _,_,_=>False
theorem TG(b o:Nat):∀ (vs:List nG) (w:nH) (cur:nN nG) (T:nF) (fz:Nat×Nat),w.heap[b]?=some (.cells cur T fz)->o+vs.length<=cur.size ->
 (w.setCells b o vs).heap[b]?=some (.cells (cur.toList.take o++(vs++cur.toList.drop (o+vs.length))).toArray T fz)/\(∀ b',b'≠b->(w.setCells b o vs).heap[b']?=w.heap[b']?) /\
 (w.setCells b o vs).heap.size=w.heap.size/\(w.setCells b o vs).os=w.os/\(w.setCells b o vs).tape=w.tape/\(w.setCells b o vs).output=w.output:=by
 intro vs
 induction vs generalizing o with
 | nil =>
   intro w cur T fz hb hl
   refine⟨?_,fun _ _=>rfl,rfl,rfl,rfl,rfl⟩
   simp only[World.setCells,kF,im,iw,jl]
   simpa using hb
 | cons v r ih =>
   intro w cur T fz hb hl
   simp only[ij] at hl
   have hb':(w.setCell ⟨b,o,none⟩ v).heap[b]?=some (.cells (cur.setIfInBounds o v) T fz):=by
    simp[World.setCell,Array.getElem?_modify,hb]
   obtain⟨h1,h2,h3,h4⟩:=ih (o+1) (w.setCell ⟨b,o,none⟩ v) _ T fz hb' xz
   simp only[World.setCells]
   refine⟨h1.trans ?_,fun b' hb''=>(h2 b' hb'').trans (Below.heap_setCell _ _ _ _ hb''),h3.trans (by simp[World.setCell]),h4⟩
   congr 3
   have ho:o<cur.toList.length:=by simp;omega
   rw[Array.toList_setIfInBounds,List.take_set,List.drop_set_of_lt xh]
   rw[List.take_succ_eq_append_getElem ho,List.set_append_right _ _ (by rw[ip];omega)]
   simp only[ip,ks (Nat.le_of_lt ho),lH,List.set_cons_zero,ij]
   simp only[ju,lI,kE]
   rw[show o+1+r.length=o+(r.length+1) from by omega]
   rfl
theorem Qg{cs vs:List AV}{o:Nat}(h:o+vs.length<=cs.length)(i:Nat)(c:AV)(hc:(Yn cs o vs)[i]?=some c) :
 (o<=i/\i<o+vs.length/\vs[i-o]?=some c)\/((i<o\/o+vs.length<=i)/\cs[i]?=some c):=by
 unfold Yn at hc
 exact py
theorem RD{cs vs:List nG}{o:Nat}(h:o+vs.length<=cs.length)(i:Nat)(c:nG)(hc:(cs.take o++(vs++cs.drop (o+vs.length)))[i]?=some c) :
 (o<=i/\i<o+vs.length/\vs[i-o]?=some c)\/((i<o\/o+vs.length<=i)/\cs[i]?=some c):=by
 exact py
theorem W4(b:Nat):∀ (vs:List nG) (o:Nat) (w:nH),(w.setCells b o vs).drawn=w.drawn
 | [],_,_=>rfl
 | v::r,o,w=>by unfold World.setCells;rw[W4 b r (o+1)];rfl
theorem RC{P:nE}{σ:Store}{w:nH}(hσ:Zq σ w){b o:Nat}{cs vs:List AV}(hg:σ.get b=some (.cells cs)){xs:List nG}(hl:xs.length=vs.length)(ho:o+vs.length<=cs.length)
 (h1:vs.all AV.one=true) (hv:∀ (i:Nat) (c:AV) (x:nG),vs[i]?=some c->xs[i]?=some x->V (live σ) w c x) :
 ∃ w',(storeCells ⟨b,o,none⟩ xs).run P w=.ok () w'/\Zq (σ.set b (.cells (Yn cs o vs))) w'/\Ev σ w (σ.set b (.cells (Yn cs o vs))) w':=by
 obtain⟨cur,T,hb,hlc,hc⟩:=hσ.obj b _ (ZU hg)
 have one:∀ x∈xs,x.oneCell'=true:=by
  intro x hx
  obtain⟨i,hi,rfl⟩:=List.mem_iff_getElem.1 hx
  have hi':i<vs.length:=by omega
  exact(hv i vs[i] xs[i] (iO hi') (iO hi)).one_of (List.all_eq_true.1 h1 _ (kj hi'))
 have hrun:=run_storeCells_cells (P:=P) b o xs 0 w (fun j hj=>by
  have:o+0+j<cur.length:=by omega
  simp[World.cell?,hb];omega) (fun j hj=>by simp[World.frozen?,hb]) one
 obtain⟨k1,k2,k3,k4,k5,k6⟩:=TG b o xs w cur.toArray T (0,0) hb xz
 simp only[iw] at hrun
 have hlive:=QD hσ.nodup hg (y:=.cells (Yn cs o vs)) rfl
 have e:Ev σ w (σ.set b (.cells (Yn cs o vs))) (w.setCells b o xs) :=
  Ev.turn (b:=b) (fun b' o' _ hl=>by rw[hlive] at hl;exact hl) k4 k5 k6 k3 k2 (fun o' hn=>absurd ⟨_,ZU hg,trivial⟩ hn) ⟨0,_,ZU hg,trivial⟩ (by rw[W4];exact kO _)
 refine⟨_,hrun,hσ.set hg e k2 ⟨_,T,k1,?_,fun i c x hci hxi=>?_⟩,e⟩
 ·simp only[ii,ip,iP,Yn]
  omega
 ·simp only at hxi
  rcases Qg ho i c hci with⟨a1,a2,a3⟩|⟨a1,a3⟩<;>rcases RD (cs:=cur) (vs:=xs) (o:=o) xh i x hxi with⟨b1,b2,b3⟩|⟨b1,b3⟩
  ·exact(hv _ c x a3 b3).ev e
  ·omega
  ·omega
  ·exact(hc i c x a3 b3).ev e
theorem NT{P:nE}{T:nF}{p v:AV}{σ:Store}{K:Store->Prop}{w:nH}{pv x:nG}(h:UV P T p v σ K)(hσ:Zq σ w)(hp:V (live σ) w p pv)(hv:V (live σ) w v x) :
 ∃ w' σ',(Instr.storeAt T pv x).run P w=.ok () w'/\Zq σ' w'/\Ev σ w σ' w'/\K σ':=by
 unfold UV at h
 split at h
 ·rename_i b o vs n hvc hn
  cases hp
  split at h
  ·rename_i cs hg
   obtain⟨k1,k2,k3,k4⟩:=h
   obtain⟨c1,c2⟩:=hv.cells_of hvc
   obtain⟨w',hr,hs,he⟩:=RC (P:=P) (vs:=vs) hσ hg c1 (by rw[k1];exact k3) k2 c2
   refine⟨w',_,?_,hs,he,k4⟩
   have hsz:¬ x.cells.size≠n:=by simp at c1;omega
   simp only[Instr.storeAt,Instr.sureAddr,jZ,kf,kC,storeVar,Z8 hn,hsz,lJ]
   simpa using hr
  ·exact h.elim
 ·exact h.elim
open Go.RowKit
def WM(P:nE)(s:nF)(p:AV)(f:Nat)(K:AV->Prop):Prop :=
 match p,ZG P s f with
 | .ro cs,some off=>K (.ro (cs.drop off))
 | .val (.pointer (some ⟨b,o,none⟩)),some off=>K (.val (.pointer (some ⟨b,o+off,none⟩)))
 | _,_=>False
theorem Sd{P:nE}{s:nF}{f off:Nat}(h:ZG P s f=some off)(b o:Nat)(w:nH) :
 (Instr.fieldAt s (.pointer (some ⟨b,o,none⟩)) f).run P w=.ok (.pointer (some ⟨b,o+off,none⟩)) w:=by
 unfold ZG at h
 split at h
 ·rename_i fs hu
  simp only[lz] at h
  obtain⟨fl,hf,h⟩:=h
  split at h
  ·rename_i k hk
   injection h with h
   subst h
   simp[Instr.fieldAt,kB hu,hf,Instr.sureAddr,fieldPlace,Z8 hk,YC]
  ·cases h
 ·cases h
theorem V.ro_drop{L:Nat->Nat->Prop}{w:nH}{cs:List AV}{b o:Nat}(h:V L w (.ro cs) (.pointer (some ⟨b,o,none⟩)))(n:Nat):V L w (.ro (cs.drop n)) (.pointer (some ⟨b,o+n,none⟩)):=by
 cases h with
 | ro _ _ _ rd h1 h2 =>
   refine .ro _ b (o+n) (fun j=>rd (n+j)) (fun j c hj=>?_) (fun j c hj=>?_)
   ·rw[ku] at hj
    have:=h1 (n+j) c hj
    rw[show o+n+j=o+(n+j) from by omega]
    exact this
   ·rw[ku] at hj
    exact h2 (n+j) c hj
theorem V.ro_form{L:Nat->Nat->Prop}{w:nH}{cs:List AV}{v:nG}(h:V L w (.ro cs) v):∃ b o,v=.pointer (some ⟨b,o,none⟩):=by
 cases h with
 | ro _ b o _ _ _=>exact⟨b,o,rfl⟩
theorem N4{P:nE}{s:nF}{p:AV}{f:Nat}{K:AV->Prop}{L:Nat->Nat->Prop}{w:nH}{v:nG}(h:WM P s p f K)(hp:V L w p v) :
 ∃ x av,(Instr.fieldAt s v f).run P w=.ok x w/\V L w av x/\K av:=by
 unfold WM at h
 split at h
 ·rename_i cs off hf
  obtain⟨b,o,rfl⟩:=hp.ro_form
  exact⟨_,_,Sd hf b o w,hp.ro_drop off,h⟩
 ·rename_i b o off hf
  cases hp
  exact⟨_,_,Sd hf b o w,.val _,h⟩
 ·exact h.elim
def Ya(P:nE)(t:nF)(x i:AV)(K:AV->Prop):Prop :=
 match x,i,Yf P t with
 | .list _ s es,.val (.int _ n),some e=>ZB P e=some s/\0<=n/\n<es.length/\∀ c,es[n.toNat]?=some c->K (.ro c)
 | .val (.slice (some ⟨b,o,none⟩) len _),.val (.int _ n),some e=>match ZB P e with
   | some s=>0<=n/\n<len/\K (.val (.pointer (some ⟨b,o+n.toNat * s,none⟩)))
   | none=>False
 | .val (.pointer (some ⟨b,o,none⟩)),.val (.int _ n),none=>match P.underlying t with
   | some (.array len e)=>match ZB P e with
     | some s=>0<=n/\n<len/\K (.val (.pointer (some ⟨b,o+n.toNat * s,none⟩)))
     | none=>False
   | _=>False
 | .ro cs,.val (.int _ n),none=>match P.underlying t with
   | some (.array len e)=>match ZB P e with
     | some s=>0<=n/\n<len/\K (.ro (cs.drop (n.toNat * s)))
     | none=>False
   | _=>False
 | _,_,_=>False
theorem Xr{P:nE}{t e:nF}(h:Yf P t=some e):P.underlying t=some (.slice e):=by
 unfold Yf at h
 split at h
 ·rename_i hu;injection h with h;rw[hu,h]
 ·cases h
theorem Rw{P:nE}{t:nF}{x i:AV}{K:AV->Prop}{L:Nat->Nat->Prop}{w:nH}{vx vi:nG}(h:Ya P t x i K)(hx:V L w x vx)(hi:V L w i vi) :
 ∃ y av,(Instr.indexAt t vx vi).run P w=.ok y w/\V L w av y/\K av:=by
 unfold Ya at h
 split at h
 ·rename_i r s es k n e he
  cases hi
  obtain⟨hs,h0,hn,hk⟩:=h
  cases hx with
  | list _ _ _ cap a b o rd hcap hlim hsz ha hr h1 h2 =>
    have hne:es≠[]:=by rintro rfl;simp at hn;omega
    have hlt:n.toNat<es.length:=by omega
    rw[ha hne]
    refine⟨.pointer (some ⟨b,o+n.toNat * s,none⟩),_,?_,?_,hk es[n.toNat] (iO hlt)⟩
    ·simp[Instr.indexAt,asIntOf,kB (Xr he),Z8 hs,h0,hn,YC]
    ·refine .ro _ b _ (fun j=>rd (n.toNat * s+j)) (fun j c hj=>?_) (fun j c hj=>h2 _ _ _ _ (iO hlt) hj)
     have:=h1 _ _ j c (iO hlt) hj
     rw[jV]
     exact this
 ·rename_i b o len cap k n e he
  cases hx
  cases hi
  split at h
  ·rename_i s hs
   obtain⟨h0,hn,hk⟩:=h
   exact⟨_,_,by simp[Instr.indexAt,asIntOf,kB (Xr he),Z8 hs,h0,hn,YC],.val _,hk⟩
  ·exact h.elim
 ·rename_i b o k n he
  cases hx
  cases hi
  split at h
  ·rename_i len e hu
   split at h
   ·rename_i s hs
    obtain⟨h0,hn,hk⟩:=h
    exact⟨_,_,by simp[Instr.indexAt,asIntOf,kB hu,Z8 hs,Instr.sureAddr,h0,hn,YC],.val _,hk⟩
   ·exact h.elim
  ·exact h.elim
 ·rename_i cs k n he
  cases hi
  obtain⟨b,o,rfl⟩:=hx.ro_form
  split at h
  ·rename_i len e hu
   split at h
   ·rename_i s hs
    obtain⟨h0,hn,hk⟩:=h
    exact⟨_,_,by simp[Instr.indexAt,asIntOf,kB hu,Z8 hs,Instr.sureAddr,h0,hn,YC],hx.ro_drop _,hk⟩
   ·exact h.elim
  ·exact h.elim
 ·exact h.elim
def bAt(s:ByteArray)(i:Nat):Int:=((s.data.toList.getD i 0).toNat:Int)
def Vj(P:nE)(t:nF)(x i:AV)(K:AV->Prop):Prop :=
 match x,i,P.underlying t with
 | .val (.string s),.val (.int _ n),some .string=>0<=n/\n<s.size/\K (.val (.int .u8 (bAt s n.toNat)))
 | .agg cs,.val (.int _ n),some (.array len e)=>match ZB P e with
   | some s=>0<=n/\n<len/\match VU P e (cs.drop (n.toNat * s)) with
     | some v=>K v
     | none=>False
   | none=>False
 | _,_,_=>False
theorem Oe{P:nE}{T:nF}{L:Nat->Nat->Prop}{w:nH}{cs:List AV}{vs:List nG}{off:Nat}{av:AV}(h:VU P T (cs.drop off)=some av)(hl:cs.length=vs.length)
 (hv:∀ (i:Nat) (c:AV) (v:nG),cs[i]?=some c->vs[i]?=some v->V L w c v):∃ v,(part T vs.toArray off).run P w=.ok v w/\V L w av v:=by
 unfold VU at h
 split at h
 ·rename_i n ha hs
  split at h
  ·rename_i hn
   injection h with h
   subst h
   have hn':n<=cs.length-off:=by simpa using hn
   refine⟨.agg (vs.toArray.extract off (off+n)),by simp[part,V3 ha,Z8 hs],?_⟩
   have e:vs.toArray.extract off (off+n)=((vs.drop off).take n).toArray:=by
    rw[List.extract_toArray];simp[List.extract_eq_take_drop]
   rw[e]
   refine .agg _ _ xz (fun i c v hc hvi=>?_)
   have hi:i<n:=by have:=(List.getElem?_eq_some_iff.1 hc).1;simp at this;omega
   rw[jF hi,ku] at hc hvi
   exact hv _ c v hc hvi
  ·cases h
 ·rename_i n ha hs
  have h0:cs[off]?=some av:=by rw[lN] at h;exact h
  have hlt:off<vs.length:=by have:=(List.getElem?_eq_some_iff.1 h0).1;omega
  refine⟨vs[off],by simp[part,V3 ha,hlt],hv off av _ h0 (iO hlt)⟩
 ·cases h
theorem N2{P:nE}{t:nF}{x i:AV}{K:AV->Prop}{L:Nat->Nat->Prop}{w:nH}{vx vi:nG}(h:Vj P t x i K)(hx:V L w x vx)(hi:V L w i vi) :
 ∃ y av,(Instr.index t vx vi).run P w=.ok y w/\V L w av y/\K av:=by
 unfold Vj at h
 split at h
 ·rename_i s k n hu
  cases hx
  cases hi
  obtain⟨h0,hn,hk⟩:=h
  have hlt:n.toNat<s.size:=by omega
  have e:s[n.toNat]?=some s[n.toNat]:=by simp[hlt]
  have hr:(Instr.index t (.string s) (.int k n)).run P w=.ok (.int .u8 (s[n.toNat]).toNat) w:=by
   simp only[Instr.index,asIntOf,jZ,kf,kC,kB hu]
   rw[gZ h0,e]
   rfl
  have this:n.toNat<s.data.toList.length:=by rw[lO];exact hlt
  have e2:bAt s n.toNat=((s[n.toNat]).toNat:Int):=by
   unfold bAt
   rw[jQ,iO this,ko]
   rfl
  exact⟨_,_,hr,.val _,e2 ▸ hk⟩
 ·rename_i cs k n len e hu
  cases hi
  cases hx with
  | agg _ vs hl hv =>
    split at h
    ·rename_i s hs
     obtain⟨h0,hn,h⟩:=h
     split at h
     ·rename_i av hp
      obtain⟨v,hr,hv'⟩:=Oe (P:=P) hp hl hv
      exact⟨v,av,by simp[Instr.index,asIntOf,kB hu,h0,hn,Z8 hs,hr],hv',h⟩
     ·exact h.elim
    ·exact h.elim
 ·exact h.elim
def Ti(P:nE)(s:nF)(x:AV)(f:Nat)(K:AV->Prop):Prop :=
 match x,fTy P s f with
 | .agg cs,some (off,T)=>match VU P T (cs.drop off) with
   | some v=>K v
   | none=>False
 | _,_=>False
theorem PZ{P:nE}{s:nF}{x:AV}{f:Nat}{K:AV->Prop}{L:Nat->Nat->Prop}{w:nH}{vx:nG}(h:Ti P s x f K)(hx:V L w x vx) :
 ∃ y av,(Instr.field s vx f).run P w=.ok y w/\V L w av y/\K av:=by
 unfold Ti at h
 split at h
 ·rename_i cs off T hf
  cases hx with
  | agg _ vs hl hv =>
    split at h
    ·rename_i av hp
     obtain⟨v,hr,hv'⟩:=Oe (P:=P) hp hl hv
     unfold fTy at hf
     split at hf
     ·rename_i fs hu
      simp only[kQ,lE] at hf
      obtain⟨fl,hfl,rfl,rfl⟩:=hf
      exact⟨v,av,by simp[Instr.field,kB hu,hfl,asAgg,hr],hv',h⟩
     ·cases hf
    ·exact h.elim
 ·exact h.elim
end Go.Vx
end
