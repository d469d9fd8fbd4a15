/- Part Q05 of the proof of treeLooksProved: the walk of the program on abstract values, and the plain law. -/
import Derived.Test.YtmedmnondjmleaaGreatQ04
import Derived.IntWalk
set_option linter.unusedVariables false
set_option linter.unusedSimpArgs false
section
namespace Go.Vx
open Go.RowKit
def CV (L:Nat→Nat→Prop)(w:World)(cs:List AV)(xs:List Value):Prop:=xs.length=cs.length∧∀ (i:Nat) (c:AV) (x:Value),cs[i]?=some c→xs[i]?=some x→V L w c x
theorem CV.append {L:Nat→Nat→Prop}{w:World}{cs ds:List AV}{xs ys:List Value}(h:CV L w cs xs)(k:CV L w ds ys):CV L w (cs++ds) (xs++ys):=by
 refine ⟨by simp [h.1,k.1],fun i c x hc hx=>?_⟩
 by_cases hi:i<cs.length
 ·rw [List.getElem?_append_left hi] at hc
  rw [List.getElem?_append_left (by rw [h.1];exact hi)] at hx
  exact h.2 i c x hc hx
 ·rw [List.getElem?_append_right (by omega)] at hc
  rw [List.getElem?_append_right (by rw [h.1];omega),h.1] at hx
  exact k.2 _ c x hc hx
theorem CV.ev {σ σ':Store}{w w':World}{cs:List AV}{xs:List Value}(h:CV (live σ) w cs xs)(e:Ev σ w σ' w'):CV (live σ') w' cs xs:=⟨h.1,fun i c x a b=>(h.2 i c x a b).ev e⟩
theorem Vf {α:Type}{s:Nat}:∀ (es:List (List α)),(∀ (i:Nat) (e:List α),es[i]?=some e→e.length=s)→es.flatten.length=es.length * s∧∀ (i j:Nat) (e:List α),es[i]?=some e→j<s→es.flatten[i * s+j]?=e[j]?:=by
 intro es
 induction es with
 | nil=>intro _;exact ⟨by simp,fun i j e h=>by simp at h⟩
 | cons a r ih =>
   intro h
   have ha:=h 0 a rfl
   obtain ⟨h1,h2⟩:=ih (fun i e he=>h (i+1) e (by simpa using he))
   refine ⟨by rw [List.flatten_cons,List.length_append,h1,ha,List.length_cons,Nat.succ_mul];omega,fun i j e he hj=>?_⟩
   rw [List.flatten_cons]
   cases i with
   | zero=>simp at he;subst he;simp only [Nat.zero_mul,Nat.zero_add];rw [List.getElem?_append_left (by omega)]
   | succ i =>
     rw [List.getElem?_append_right (by rw [ha,Nat.succ_mul];omega),ha,show (i+1) * s+j-s=i * s+j from by rw [Nat.succ_mul];omega]
     exact h2 i j e (by simpa using he) hj
theorem YA.cv {L:Nat→Nat→Prop}{w:World}{s:Nat}{es:List (List AV)}{xs:List Value}(h:YA L w s es xs):CV L w es.flatten xs:=by
 obtain ⟨f1,f2⟩:=Vf es h.sz
 refine ⟨by rw [h.len,f1],fun k c x hc hx=>?_⟩
 have hk:k<es.length * s:=by have:=(List.getElem?_eq_some_iff.1 hc).1;omega
 have hs:0<s:=Nat.pos_of_ne_zero (by rintro rfl;simp at hk)
 have hi:k / s<es.length:=(Nat.div_lt_iff_lt_mul hs).2 hk
 have hj:k % s<s:=Nat.mod_lt _ hs
 have hkk:k / s * s+k % s=k:=by rw [Nat.mul_comm];exact Nat.div_add_mod k s
 have he:=List.getElem?_eq_getElem hi
 have:=f2 (k / s) (k % s) _ he hj
 rw [hkk,hc] at this
 exact h.v (k / s) _ (k % s) c x he this.symm (by rw [hkk];exact hx)
def BK:Builtin→Bool
 | .append=>true
 | _=>false
def Ua (P:Program)(sT xT:TypeId)(s x:AV)(σ:Store)(K:AV→Store→Prop):Prop :=
 match ZA P sT,x with
 | some e,.list _ s2 ys=>match Zh P e,Zl P e,ZQ P e with
   | some sz,some z,some by_=>(ZA P xT).isSome=true∧z.cells.size=sz∧by_≤512∧(s2=sz∨ys=[])∧(∀ e∈ys,e.length=sz) ∧
     match s with
     | .list .full s1 es=>es.length+ys.length≤lim∧(s1=sz∨es=[])∧(∀ e∈es,e.length=sz)∧(ys=[]→K (.list .full s1 es) σ) ∧
       (ys≠[]→∀ b nc zs,Zx σ b→es.length+ys.length≤nc→zs.length=(nc-(es.length+ys.length)) * sz→K (.val (.slice (some ⟨b,0,none⟩) (es.length+ys.length) nc)) ((b,.cells (es.flatten++ys.flatten++zs))::σ))
     | .val (.slice (some ⟨b,0,none⟩) n cap)=>∃ cs,σ.get b=some (.cells cs)∧cs.length=cap * sz∧n≤cap∧n+ys.length≤lim∧ys.flatten.all AV.one=true∧(cs.take (n * sz)).all AV.one=true ∧
       (n+ys.length≤cap→K (.val (.slice (some ⟨b,0,none⟩) (n+ys.length) cap)) (σ.set b (.cells (Yu cs (n * sz) ys.flatten)))) ∧
       (¬ n+ys.length≤cap→∀ b' nc zs,Zx σ b'→n+ys.length≤nc→zs.length=(nc-(n+ys.length)) * sz→K (.val (.slice (some ⟨b',0,none⟩) (n+ys.length) nc)) ((b',.cells (cs.take (n * sz)++ys.flatten++zs))::σ))
     | _=>False
   | _,_,_=>False
 | _,_=>False
theorem dN (L:Nat→Nat→Prop)(w:World)(l:List Value):CV L w (l.map cM) l:=by
 refine ⟨by simp,fun i c x hc hx=>?_⟩
 rw [List.getElem?_map,hx] at hc
 simp at hc
 subst hc
 exact dx _ _ _
theorem Lj {P:Program}{sT xT ty:TypeId}{s x:AV}{σ:Store}{K:AV→Store→Prop}{w:World}{sv xv:Value}(h:Ua P sT xT s x σ K)(hσ:Zo σ w)(hs:V (live σ) w s sv)(hx:V (live σ) w x xv) :
 ∃ y w' av σ',(Builtin.append_ #[sT,xT] ty #[sv,xv]).run P w=.ok y w'∧V (live σ') w' av y∧Zo σ' w'∧Ev σ w σ' w'∧K av σ':=by
 unfold Ua at h
 split at h
 case h_2=>exact h.elim
 rename_i e r2 s2 ys he
 split at h
 case h_2=>exact h.elim
 rename_i sz z by_ hsz hz hby
 obtain ⟨hxT,hzs,hb512,hs2,hyl,h⟩:=h
 obtain ⟨a2,cap2,b2,o2,zs,rfl,hcap2,hl2,hr2,ha2,hd,hdx⟩:=hx.list_form
 have fit:∀ w':World,w'.heap=w.heap→∀ (b o:Nat) (k:Nat) (x:Value),w.cell? ⟨b,o+k,none⟩=some x→w'.cell? ⟨b,o+k,none⟩=some x:=by
  intro w' hw b o k x hh
  rw [← hh];unfold World.cell?;rw [hw]
 have hlen:∀ w',(Builtin.lenOf (.slice a2 ys.length cap2)).run P w'=.ok ys.length w':=fun _=>rfl
 have hnew:∀ w':World,w'.heap=w.heap→(Builtin.firstCells sz ys.length (.slice a2 ys.length cap2)).run P w'=.ok zs.toArray w':=fun w' hw =>
  XP (L:=live σ) (w:=w') hs2 ha2 ⟨hd.len,hd.sz,fun i e j c y p q t=>(hd.v i e j c y p q t).mono (fun _ _ _ h=>h) (fun b o _ _=>by unfold World.cell?;rw [hw]),hd.one⟩ (fun k x hk=>⟨(hdx k x hk).1,fit w' hw _ _ _ _ (hdx k x hk).2⟩)
 have sure2:YA (live σ) w sz ys zs:=by
  rcases hs2 with rfl | rfl
  ·exact hd
  ·have:zs=[]:=by have:=hd.len;simpa using this
   subst this
   exact ⟨by simp,by simp,by simp,by simp⟩
 have cvy:=sure2.cv
 have grow:∀ (base:Option Addr) (n cap:Nat) (cs:List AV) (xs:List Value),CV (live σ) w cs xs→(∀ w':World,w'.heap=w.heap→(Builtin.firstCells sz n (.slice base n cap)).run P w'=.ok xs.toArray w')→¬ n+ys.length≤cap→n+ys.length≤lim →
  (∀ b nc zs,Zx σ b→n+ys.length≤nc→zs.length=(nc-(n+ys.length)) * sz→K (.val (.slice (some ⟨b,0,none⟩) (n+ys.length) nc)) ((b,.cells (cs++ys.flatten++zs))::σ)) →
  ∃ y w' av σ',(Builtin.append_ #[sT,xT] ty #[.slice base n cap,.slice a2 ys.length cap2]).run P w=.ok y w'∧V (live σ') w' av y∧Zo σ' w'∧Ev σ w σ' w'∧K av σ':=by
  intro base n cap cs xs hcv hold hno hlim hk
  obtain ⟨nc,hnc,hrun⟩:=V7 (ty:=ty) (P:=P) (w:=w) he hsz hz hby hxT (hlen w) hnew hold hno hlim hb512
  have hzz:=dN (live σ) w (Builtin.zeroCells z.cells (nc-(n+ys.length))).toList
  have all:=(hcv.append cvy).append hzz
  have h1:=hσ.drew
  have e1:=Ev.drew σ w
  have e2:=Ev.alloc h1 (.cells (xs++zs++(Builtin.zeroCells z.cells (nc-(n+ys.length))).toList).toArray e) (.cells (cs++ys.flatten++(Builtin.zeroCells z.cells (nc-(n+ys.length))).toList.map cM))
  have ok:=h1.alloc (.cells (xs++zs++(Builtin.zeroCells z.cells (nc-(n+ys.length))).toList).toArray e) (.cells (cs++ys.flatten++(Builtin.zeroCells z.cells (nc-(n+ys.length))).toList.map cM)) (dm e all.1 (fun i c x hc hx=>((all.2 i c x hc hx).ev e1).ev e2))
  exact ⟨_,_,_,_,hrun,.val _,ok,e1.trans e2,hk _ _ _ (hσ.fresh (Nat.le_refl _)) hnc (by rw [List.length_map,Wo,hzs])⟩
 split at h
 ·rename_i s1 es
  obtain ⟨hlim,hs1,hel,hnil,hk⟩:=h
  obtain ⟨a,cap,b,o,xs,rfl,hcap,hl1,hr,ha,hc,hcx⟩:=hs.list_form
  have hold:∀ w':World,w'.heap=w.heap→(Builtin.firstCells sz es.length (.slice a es.length cap)).run P w'=.ok xs.toArray w':=fun w' hw =>
   XP (L:=live σ) (w:=w') hs1 ha ⟨hc.len,hc.sz,fun i e j c y p q t=>(hc.v i e j c y p q t).mono (fun _ _ _ h=>h) (fun b o _ _=>by unfold World.cell?;rw [hw]),hc.one⟩ (fun k x hk=>⟨(hcx k x hk).1,fit w' hw _ _ _ _ (hcx k x hk).2⟩)
  simp only [Pe] at hr
  by_cases hy:ys=[]
  ·subst hy
   have hrun:=Xb (ty:=ty) (P:=P) (w:=w) (base:=a) (cap:=cap) he hsz hxT (hlen w) (hnew w rfl) (by simp;omega)
   have hz0:zs=[]:=by have:=hd.len;simpa using this
   subst hz0
   refine ⟨_,w,_,σ,?_,hs,hσ,Ev.refl _ _,hnil rfl⟩
   rw [hrun]
   cases a<;>simp [storeCells]
  ·have:0<ys.length:=List.length_pos_iff.2 hy
   exact grow a es.length cap es.flatten xs hc.cv hold (by omega) hlim (hk hy)
 ·rename_i b n cap
  obtain ⟨cs,hg,hcl,hn,hlim,hone,hone1,hk1,hk2⟩:=h
  cases hs
  obtain ⟨cur,T,hb,hcur,hcv⟩:=hσ.obj b _ (ZW hg)
  have hnc:n * sz≤cur.length:=by rw [hcur,hcl];exact Nat.mul_le_mul_right _ hn
  by_cases hroom:n+ys.length≤cap
  ·have hyf:ys.flatten.length=ys.length * sz:=(Vf ys sure2.sz).1
   obtain ⟨w',r1,r2,r3⟩:=SU (P:=P) (vs:=ys.flatten) (o:=n * sz) hσ hg cvy.1 (by rw [hcl,hyf,← Nat.add_mul];exact Nat.mul_le_mul_right _ hroom) hone cvy.2
   have hrun:=Xb (ty:=ty) (P:=P) (w:=w) (base:=some ⟨b,0,none⟩) (cap:=cap) he hsz hxT (hlen w) (hnew w rfl) hroom
   refine ⟨_,w',_,_,?_,.val _,r2,r3,hk1 hroom⟩
   rw [hrun]
   simp only [YY,Nat.zero_add,r1,Result.andThen_ok]
  ·have hcvt:CV (live σ) w (cs.take (n * sz)) (cur.take (n * sz)):=by
    refine ⟨by simp [hcur],fun i c x hc hx=>?_⟩
    rw [List.getElem?_take] at hc hx
    split at hc
    ·rename_i hi;rw [if_pos hi] at hx;exact hcv i c x hc hx
    ·cases hc
   have hold:∀ w':World,w'.heap=w.heap→(Builtin.firstCells sz n (.slice (some ⟨b,0,none⟩) n cap)).run P w'=.ok (cur.take (n * sz)).toArray w':=by
    intro w' hw
    have hl:=run_loadCells_list (P:=P) (w:=w') ⟨b,0,none⟩ (cur.take (n * sz)) (fun j v hj=>by
     rw [YY,Nat.zero_add]
     rw [List.getElem?_take] at hj
     split at hj
     ·unfold World.cell?;rw [hw];simp only [hb];simpa using hj
     ·cases hj)
    rw [List.length_take,Nat.min_eq_left hnc] at hl
    exact hl
   exact grow (some ⟨b,0,none⟩) n cap _ _ hcvt hold hroom hlim (hk2 hroom)
 ·exact eY
theorem dT {σ:Store}{w:World}(hσ:Zo σ w){b n cap sz:Nat}{cs:List AV}{es:List (List AV)}(hg:σ.get b=some (.cells cs))(hn:es.length=n)(hcap:n≤cap)(hlim:n≤lim)(hsz:∀ (i:Nat) (e:List AV),es[i]?=some e→e.length=sz)(hcs:cs.take (n * sz)=es.flatten)(h1:es.flatten.all AV.one=true) :
 V (live (σ.del b)) w (.list .none sz es) (.slice (some ⟨b,0,none⟩) n cap):=by
 obtain ⟨cur,T,hb,hcur,hcv⟩:=hσ.obj b _ (ZW hg)
 obtain ⟨f1,f2⟩:=Vf es hsz
 have hlen:es.flatten.length≤cs.length:=by rw [← hcs];simp;omega
 have hidx:∀ (i:Nat) (e:List AV) (j:Nat) (c:AV),es[i]?=some e→e[j]?=some c→es.flatten[i * sz+j]?=some c∧cs[i * sz+j]?=some c:=by
  intro i e j c he hc
  have hj:j<sz:=by have:=(List.getElem?_eq_some_iff.1 hc).1;rw [hsz i e he] at this;exact this
  have h2:=f2 i j e he hj
  rw [hc] at h2
  refine ⟨h2,?_⟩
  rw [← hcs,List.getElem?_take] at h2
  split at h2
  ·exact h2
  ·cases h2
 have es':=(XQ σ b).ev w
 subst hn
 refine V.list (r:=.none) (b:=b) (o:=0) (rd:=fun k=>cur.getD k .nilFunc) _ _ _ _ hcap hlim hsz (fun _=>rfl) trivial (fun i e j c he hc=>?_) (fun i e j c he hc=>?_)
 ·obtain ⟨q1,q2⟩:=hidx i e j c he hc
  have hlt:i * sz+j<cur.length:=by have:=(List.getElem?_eq_some_iff.1 q2).1;omega
  refine ⟨fun hl=>?_,?_,?_⟩
  ·obtain ⟨y,hy,_⟩:=hl;exact UC hσ.nodup b y hy
  ·unfold World.cell?;simp only [hb];simp [hlt]
  ·have hv:=hcv _ c cur[i * sz+j] q2 (List.getElem?_eq_getElem hlt)
   have:=hv.one_of (List.all_eq_true.1 h1 c (List.mem_of_getElem? q1))
   simpa [hlt] using this
 ·obtain ⟨q1,q2⟩:=hidx i e j c he hc
  have hlt:i * sz+j<cur.length:=by have:=(List.getElem?_eq_some_iff.1 q2).1;omega
  have hv:=hcv _ c cur[i * sz+j] q2 (List.getElem?_eq_getElem hlt)
  have:=hv.ev es'
  simpa [hlt] using this
theorem dt {σ:Store}{b n cap sz:Nat}{cs:List AV}{es:List (List AV)}(hg:σ.get b=some (.cells cs))(hn:es.length=n)(hcap:n≤cap)(hlim:n≤lim)(hsz:∀ (i:Nat) (e:List AV),es[i]?=some e→e.length=sz)(hcs:cs.take (n * sz)=es.flatten)(h1:es.flatten.all AV.one=true) :
 Y0 (.val (.slice (some ⟨b,0,none⟩) n cap)) σ (.list .none sz es) (σ.del b):=by
 intro w x hσ hv
 cases hv
 exact ⟨dT hσ hg hn hcap hlim hsz hcs h1,hσ.sub (XQ σ b),(XQ σ b).ev w⟩
end Go.Vx
end
section
namespace Go.Vx
open Go.RowKit
def VJ (σ:Store)(w:World)(R:ZO→Store→Prop):Ending→World→Prop
 | .returned v,w'=>∃ av σ',R (.ret av) σ'∧V (live σ') w' av v∧Zo σ' w'∧Ev σ w σ' w'
 | .panicked chain,w'=>∃ pv σ',chain=[{ v:=pv,recovered:=false }]∧R (.pan pv) σ'∧Zo σ' w'∧Ev σ w σ' w'
 | .outgrown,_=>False
def Vs (L:Nat→Nat→Prop)(w:World)(as:List AV)(vs:List Value):Prop :=
 as.length=vs.length∧∀ (i:Nat) (a:AV) (v:Value),as[i]?=some a→vs[i]?=some v→V L w a v
def Zj (P:Program)(f:FuncId)(args:List AV)(σ:Store)(R:ZO→Store→Prop):Prop :=
 Xn P f=true∧∀ (w:World) (vs:Array Value),Zo σ w→Vs (live σ) w args vs.toList→Calls P f vs w (VJ σ w R)
def ZX (P:Program)(f:AV)(args:List AV)(σ:Store)(R:ZO→Store→Prop):Prop :=
 ∃ g first cap,f=.val (.func (.func g) first cap)∧Zj P g (first.toList.map .val++args++cap.toList.map .val) σ R
theorem VJ.mono {σ:Store}{w:World}{R R':ZO→Store→Prop}(h:∀ r σ',R r σ'→R' r σ'){e:Ending}{w':World}(k:VJ σ w R e w'):VJ σ w R' e w':=by
 cases e with
 | returned v=>obtain ⟨av,σ',a,b⟩:=k;exact ⟨av,σ',h _ _ a,b⟩
 | panicked c=>obtain ⟨pv,σ',e,a,b⟩:=k;exact ⟨pv,σ',e,h _ _ a,b⟩
 | outgrown=>exact k
theorem Zj.mono {P:Program}{f:FuncId}{args:List AV}{σ:Store}{R R':ZO→Store→Prop}(h:Zj P f args σ R)(k:∀ r σ',R r σ'→R' r σ'):Zj P f args σ R' :=
 ⟨h.1,fun w vs a b=>(h.2 w vs a b).mono fun _ _ e=>e.mono k⟩
theorem ZX.mono {P:Program}{f:AV}{args:List AV}{σ:Store}{R R':ZO→Store→Prop}(h:ZX P f args σ R)(k:∀ r σ',R r σ'→R' r σ'):ZX P f args σ R':=by
 obtain ⟨g,first,cap,e,h⟩:=h;exact ⟨g,first,cap,e,h.mono k⟩
theorem ZX.of {P:Program}{g:FuncId}{cap:Array Value}{args:List AV}{σ:Store}{R:ZO→Store→Prop}(h:Zj P g (args++cap.toList.map .val) σ R):ZX P (.val (.func (.func g) #[] cap)) args σ R :=
 ⟨g,#[],cap,rfl,by simpa using h⟩
def Q3 (x:AV)(K:AV→Prop):Prop :=
 match x with
 | .val (.pointer (some a))=>K x
 | .val (.func (.func f) a b)=>K x
 | .ro cs=>K x
 | _=>False
def opC:Operand→Bool
 | .const _=>true
 | _=>false
def Yk (P:Program)(op:BinOp)(T:TypeId)(x y:AV)(yc:Operand)(K:AV→Prop):Prop :=
 match Ym P op T x y (opC yc) with
 | some v=>K v
 | none=>match op,x,y,yc,ZA P T with
   | .eql,.list _ _ es,_,.const (.slice none _ _),some _=>∀ b:Bool,(b=true→es=[])→K (.val (.bool b))
   | .neq,.list _ _ es,_,.const (.slice none _ _),some _=>∀ b:Bool,(b=false→es=[])→K (.val (.bool b))
   | op,.agg xs,.agg ys,_,_=>match cV xs,cV ys with
     | some vs,some us=>∃ r,(∀ (a b:Operand) (w:World),(do eqGuard op T a b (.agg vs.toArray) (.agg us.toArray);binOp op T (.agg vs.toArray) (.agg us.toArray)).run P w=.ok r w)∧K (.val r)
     | _,_=>False
   | _,_,_,_,_=>False
def Wn (P:Program)(mu:Bool)(t:TypeId)(n c:AV)(σ:Store)(K:ZO→Store→Prop):Prop :=
 match n,c,ZA P t with
 | .val (.int .i64 n),.val (.int .i64 c),some e=>match Zl P e,ZQ P e,Zh P e with
   | some z,some by_,some 1=>n=c∧0≤n∧by_≤512∧n≤lim∧z.cells.size=1∧z.oneCell'=true ∧
    if mu then ∀ b,Zx σ b→K (.ret (.val (.slice (some ⟨b,0,none⟩) n.toNat n.toNat))) ((b,.cells (List.replicate n.toNat (cM z)))::σ)
    else K (.ret (.list .full 1 (List.replicate n.toNat [cM z]))) σ
   | _,_,_=>False
 | _,_,_=>False
def Y2 (K:ZO→Store→Prop)(σ:Store):AV→Prop:=fun v=>K (.ret v) σ
def Ke (K:ZO→Store→Prop):Store→Prop:=fun σ=>K (.ret .any) σ
def kRs (K:ZO→Store→Prop):AV→Store→Prop:=fun v σ=>K (.ret v) σ
def Xg (P:Program)(b:Builtin)(ts:Array TypeId)(args:List AV)(σ:Store)(K:ZO→Store→Prop):Prop :=
 match b,ts.toList,args with
 | .append,[sT,xT],[s,x]=>UY P sT xT s x σ (kRs K)
 | .len,[t],[x]=>Ue P t x σ (Y2 K σ)
 | .max,_,xs=>amm true xs (Y2 K σ)
 | .min,_,xs=>amm false xs (Y2 K σ)
 | _,_,_=>False
def Dz (P:Program)(ts:List TypeId)(args:List AV)(σ:Store)(K:ZO→Store→Prop):Prop :=
 match ts,args with
 | [sT,xT],[s,x]=>Ua P sT xT s x σ (kRs K)
 | _,_=>False
def ZB (P:Program)(mu:Bool)(ev:Operand→AV)(σ:Store)(K:ZO→Store→Prop):Op→Prop
 | .move x=>K (.ret (ev x)) σ
 | .assign x=>K (.ret (ev x)) σ
 | .pick c a b=>match ev c with
   | .val (.bool x)=>K (.ret (if x then ev a else ev b)) σ
   | _=>False
 | .alloc T=>match Zl P T with
   | some z=>Pd true (YL z) σ K
   | none=>False
 | .box T x=>match (ev x).cells with
   | some cs=>Pd mu cs σ K
   | none=>False
 | .build t ps=>Vq P t (ps.toList.map fun p=>(p.1,ev p.2)) (Y2 K σ)
 | .buildSlice t n ps=>YU P t n (ps.toList.map fun p=>(p.1,ev p.2)) (Y2 K σ)
 | .load T x=>Wg P T (ev x) σ (Y2 K σ)
 | .store T x y=>SI P T (ev x) (ev y) σ (Ke K)
 | .nilCheck x=>Q3 (ev x) (Y2 K σ)
 | .binOp op T x y _=>Yk P op T (ev x) (ev y) y (Y2 K σ)
 | .unOp op _ x=>aun op (ev x) (Y2 K σ)
 | .convert s d x=>Tf P s d (ev x) (Y2 K σ)
 | .makeInterface T x=>V1 P T (ev x) (Y2 K σ)
 | .makeFunc fn first cap=>match cV (first.toList.map ev),cV (cap.toList.map ev) with
   | some f,some c=>K (.ret (.val (.func fn f.toArray c.toArray))) σ
   | _,_=>False
 | .makeSlice t n c=>Wn P mu t (ev n) (ev c) σ K
 | .slice t x lo hi mx=>Ru P t (ev x) (lo.map ev) (hi.map ev) (mx.map ev) (Y2 K σ)
 | .fieldAddr s x f=>WB P s (ev x) f (Y2 K σ)
 | .field s x f=>Wt P s (ev x) f (Y2 K σ)
 | .indexAddr t x i=>Z7 P t (ev x) (ev i) (Y2 K σ)
 | .index t x i=>Vp P t (ev x) (ev i) (Y2 K σ)
 | .extract x i=>XO (ev x) i (Y2 K σ)
 | .typeAssert x _ T ok=>Sc P (ev x) T ok (Y2 K σ)
 | .panic x=>match ev x with
   | .val (.iface t v)=>K (.pan (.iface t v)) σ
   | _=>False
 | .call { callee:=.value f,args,.. }=>ZX P (ev f) (args.toList.map ev) σ K
 | .call { callee:=.builtin b,args,argTypes }=>if mu&&BK b then Dz P argTypes.toList (args.toList.map ev) σ K else Xg P b argTypes (args.toList.map ev) σ K
 | .makeMap _ none=>T8 σ K
 | .mapUpdate t m k v=>Vk P t (ev m) (ev k) (ev v) σ (Ke K)
 | .insert t m k v=>Vk P t (ev m) (ev k) (ev v) σ (Ke K)
 | .lookup t m k ok=>M7 P t (ev m) (ev k) ok σ (Y2 K σ)
 | .range t m=>KL P t (ev m) σ K
 | .next it false=>Dm (ev it) σ K
 | .entry it=>KW (ev it) σ (Y2 K σ)
 | _=>False
def AOp (P:Program)(o:Oper)(ev:Operand→AV)(σ:Store)(K:ZO→Store→Prop):Prop :=
 ∀ (a:Act) (w:World),Zo σ w→(∀ x∈o.op.operands.toList,V (live σ) w (ev x) (a.eval x))→∀ (next:Act→World→Prop) (Q:Exit→Act→World→Prop),
   (∀ av σ' v w',K (.ret av) σ'→V (live σ') w' av v→Zo σ' w'→Ev σ w σ' w'→next (a.put o.dst v) w') →
   (∀ pv σ' w',K (.pan pv) σ'→Zo σ' w'→Ev σ w σ' w'→Q (.panic [{ v:=pv,recovered:=false }]) a w')→o.wp P a w next Q
theorem ZT {P:Program}{o:Oper}{a:Act}{w w':World}{next:Act→World→Prop}{Q:Exit→Act→World→Prop}{v:Value}(h:(execOp a.eval o).run P w=.ok (.value v) w')(k:next (a.put o.dst v) w'):o.wp P a w next Q:=by
 unfold Oper.wp;rw [h];exact k
theorem RK {P:Program}{o:Oper}{a:Act}{w w':World}{next:Act→World→Prop}{Q:Exit→Act→World→Prop}(h:(execOp a.eval o).run P w=.ok .skip w')(k:next (a.put o.dst undef) w'):o.wp P a w next Q:=by
 unfold Oper.wp;rw [h];exact k
theorem BM {P:Program}{o:Oper}{a:Act}{w w':World}{next:Act→World→Prop}{Q:Exit→Act→World→Prop}{v:Value}(h:(execOp a.eval o).run P w=.halt (.panic v) w')(k:Q (.panic [{ v,recovered:=false }]) a w'):o.wp P a w next Q:=by
 unfold Oper.wp;rw [h];exact k
theorem Vs.map {L:Nat→Nat→Prop}{w:World}{ev:Operand→AV}{ρ:Operand→Value}(xs:List Operand)(h:∀ x∈xs,V L w (ev x) (ρ x)):Vs L w (xs.map ev) (xs.map ρ):=by
 refine ⟨by simp,fun i a v ha hv=>?_⟩
 simp only [List.getElem?_map,Option.map_eq_some_iff] at ha hv
 obtain ⟨x,hx,rfl⟩:=ha
 obtain ⟨y,hy,rfl⟩:=hv
 rw [hx] at hy
 injection hy with hy
 subst hy
 exact h x (List.mem_of_getElem? hx)
theorem dQ (L:Nat→Nat→Prop)(w:World)(vs:List Value):Vs L w (vs.map .val) vs:=by
 refine ⟨by simp,fun i a v ha hv=>?_⟩
 simp only [List.getElem?_map,Option.map_eq_some_iff] at ha
 obtain ⟨x,hx,rfl⟩:=ha
 rw [hv] at hx
 injection hx with hx
 subst hx
 exact .val _
theorem Vs.append {L:Nat→Nat→Prop}{w:World}{as bs:List AV}{vs us:List Value}(h:Vs L w as vs)(k:Vs L w bs us):Vs L w (as++bs) (vs++us):=by
 refine ⟨by simp [h.1,k.1],fun i a v ha hv=>?_⟩
 by_cases hi:i<as.length
 ·rw [List.getElem?_append_left hi] at ha
  rw [List.getElem?_append_left (by rw [← h.1];exact hi)] at hv
  exact h.2 i a v ha hv
 ·rw [List.getElem?_append_right (by omega)] at ha
  rw [List.getElem?_append_right (by rw [← h.1];omega)] at hv
  exact k.2 _ a v ha (by rw [h.1];exact hv)
theorem PM {L:Nat→Nat→Prop}{w:World}{cs:List AV}{vs xs:List Value}(h:cV cs=some vs)(k:Vs L w cs xs):xs=vs:=PN cs vs xs h k.1 k.2
theorem Lh {P:Program}{op:BinOp}{T:TypeId}{x y:Operand}{ax ay:AV}{a b:Value}{L:Nat→Nat→Prop}{w:World}{K:AV→Prop}(h:Yk P op T ax ay y K)(hx:V L w ax a)(hy:V L w ay b)
 (hyc:∀ c,y=.const c→b=c):∃ v av,(do eqGuard op T x y a b;binOp op T a b).run P w=.ok v w∧V L w av v∧K av:=by
 unfold Yk at h
 split at h
 ·rename_i v hv
  obtain ⟨u,h1,h2⟩:=K2 (P:=P) (x:=x) (y:=y) hv (fun hh=>by cases y<;>simp_all [opC]) hx hy
  exact ⟨u,v,h1,h2,h⟩
 ·split at h
  ·rename_i r s es n c _ _ _
   obtain ⟨e,he⟩:∃ e,ZA P T=some e:=⟨_,by assumption⟩
   obtain ⟨ad,cap,bb,o,xs,rfl,_,_,_,ha,_⟩:=hx.list_form
   have hb:=hyc _ rfl
   subst hb
   refine ⟨.bool ad.isNone,_,?_,.val _,h ad.isNone (fun hn=>?_)⟩
   ·have:(Op.equal T (.slice ad es.length cap) (.slice none n c)).run P w=.ok ad.isNone w:=by
     unfold Op.equal Op.maxDepth
     rw [show (10000:Nat)=9999+1 from rfl,Op.equalIn]
     simp only [Sem.run_bind,run_underlying (Xo he),Result.andThen_ok]
     cases ad<;>rfl
    simp [eqGuard,binOp,this]
   ·by_cases hne:es=[]
    ·exact hne
    ·rw [ha hne] at hn;simp at hn
  ·rename_i r s es n c _ _ _
   obtain ⟨e,he⟩:∃ e,ZA P T=some e:=⟨_,by assumption⟩
   obtain ⟨ad,cap,bb,o,xs,rfl,_,_,_,ha,_⟩:=hx.list_form
   have hb:=hyc _ rfl
   subst hb
   refine ⟨.bool (!ad.isNone),_,?_,.val _,h (!ad.isNone) (fun hn=>?_)⟩
   ·have:(Op.equal T (.slice ad es.length cap) (.slice none n c)).run P w=.ok ad.isNone w:=by
     unfold Op.equal Op.maxDepth
     rw [show (10000:Nat)=9999+1 from rfl,Op.equalIn]
     simp only [Sem.run_bind,run_underlying (Xo he),Result.andThen_ok]
     cases ad<;>rfl
    simp [eqGuard,binOp,this]
   ·by_cases hne:es=[]
    ·exact hne
    ·rw [ha hne] at hn;simp at hn
  ·rename_i xs ys _ _ _ _
   split at h
   ·rename_i vs us h1 h2
    obtain ⟨r,hr,hk⟩:=h
    have e1:a=.agg vs.toArray:=Ui (a:=.agg _) (by simp only [AV.toVal,h1]) hx
    have e2:b=.agg us.toArray:=Ui (a:=.agg _) (by simp only [AV.toVal,h2]) hy
    subst e1;subst e2
    exact ⟨r,_,hr x _ w,.val _,hk⟩
   ·exact eY
  ·exact eY
theorem SK {P:Program}{mu:Bool}{t:TypeId}{n c:AV}{σ:Store}{K:ZO→Store→Prop}{w:World}{nv cv:Value}(h:Wn P mu t n c σ K)(hσ:Zo σ w)(hn:V (live σ) w n nv)(hc:V (live σ) w c cv) :
 ∃ y w' av σ',(Instr.makeSlice t nv cv).run P w=.ok y w'∧V (live σ') w' av y∧Zo σ' w'∧Ev σ w σ' w'∧K (.ret av) σ':=by
 unfold Wn at h
 split at h
 ·rename_i n c e he
  cases hn;cases hc
  split at h
  ·rename_i z by_ hz hb hs
   obtain ⟨rfl,h0,h1,h2,h3,h4,hk⟩:=h
   simp only [lim] at h2
   have hw:IntKind.i64.wrap n=n:=IntWalk.i64_in n (by omega)
   have run:(Instr.makeSlice t (.int .i64 n) (.int .i64 n)).run P w=.ok (.slice (some ⟨w.heap.size,0,none⟩) n.toNat n.toNat) (w.alloc (.cells (List.replicate n.toNat z).toArray e)):=by
    have hzc:z.cells=#[z]:=by cases z<;>first | rfl | simp [Value.oneCell'] at h4
    have hbn:(by_:Int) * n≤512 * 137438953472:=by
     have:(by_:Int) * n≤512 * n:=Int.mul_le_mul_of_nonneg_right (by omega) h0
     omega
    obtain ⟨b1,b2⟩:=WN (P:=P) hb w
    unfold Instr.makeSlice
    simp only [Sem.run_bind,run_underlying (Xo he),Result.andThen_ok,asInt,asIntOf,Sem.run_pure,b1,b2,hw]
    rw [if_neg (by simp only [Bool.or_eq_true,decide_eq_true_eq,not_or];omega)]
    simp only [Sem.run_bind,run_askRoom,Result.andThen_ok,Z2 hs]
    by_cases hn0:n.toNat * 1=0
    ·simp only [hn0,if_true,Sem.run_pure,Result.andThen_ok,newRow,Sem.run_bind,run_newObj]
     have hn':n.toNat=0:=by omega
     rw [hn',show (Array.range 0).map (fun x=>(#[]:Array Value)[x % (#[]:Array Value).size]!)=(List.replicate 0 z).toArray from by simp]
     rfl
    ·simp only [hn0,if_false,Sem.run_bind,WL hz,Sem.run_pure,Result.andThen_ok,newRow,run_newObj,hzc]
     have harr:(Array.range (n.toNat * 1)).map (fun x=>#[z][x % #[z].size]!)=(List.replicate n.toNat z).toArray:=by
      apply Array.ext
      ·simp
      ·intro i h1 h2
       simp [Nat.mod_one]
     rw [harr]
     rfl
   cases mu with
   | true =>
     have ev:=Ev.alloc hσ (.cells (List.replicate n.toNat z).toArray e) (.cells (List.replicate n.toNat (cM z)))
     refine ⟨_,_,_,_,run,.val _,hσ.alloc (.cells (List.replicate n.toNat z).toArray e) _ (dm e (by simp) (fun i c x hc hx=>?_)),ev,hk w.heap.size (hσ.fresh (Nat.le_refl _))⟩
     simp only [List.getElem?_replicate] at hc hx
     by_cases hi:i<n.toNat
     ·simp only [hi,if_true,Option.some.injEq] at hc hx
      subst hc;subst hx
      exact dx _ _ _
     ·simp [hi] at hc
   | false =>
     refine ⟨_,_,_,_,run,?_,hσ.alloc0 _,Ev.alloc0 _,hk⟩
     have key:∀ (i:Nat) (x:List AV) (j:Nat) (c:AV),(List.replicate n.toNat [cM z])[i]?=some x→x[j]?=some c→i<n.toNat∧j=0∧c=cM z:=by
      intro i x j c hx hc
      rw [List.getElem?_replicate] at hx
      split at hx
      ·injection hx with hx;subst hx
       cases j with
       | zero=>simp at hc;exact ⟨by assumption,rfl,hc.symm⟩
       | succ j=>simp at hc
      ·cases hx
     have:=V.list (L:=live σ) (w:=w.alloc (.cells (List.replicate n.toNat z).toArray e)) .full 1 (List.replicate n.toNat [cM z]) n.toNat (some ⟨w.heap.size,0,none⟩) w.heap.size 0 (fun _=>z) (by simp) (by simp only [List.length_replicate,lim];omega)
      (fun i x hx=>by rw [List.getElem?_replicate] at hx;split at hx<;>simp at hx;subst hx;rfl) (fun _=>rfl) (by simp [Pe]) (fun i x j c hx hc=>by
       obtain ⟨hi,rfl,rfl⟩:=key i x j c hx hc
       refine ⟨fun hl=>by have:=O3 hσ hl;omega,?_,h4⟩
       unfold World.cell?
       rw [Xp]
       simp [hi]) (fun i x j c hx hc=>by obtain ⟨_,_,rfl⟩:=key i x j c hx hc;exact dx _ _ _)
     simpa using this
  ·exact eY
 ·exact eY
theorem amk {P:Program}{t e by_:TypeId}{n:Int}{z:Value}{σ:Store}{K:ZO→Store→Prop}(h1:ZA P t=some e)(h2:Zl P e=some z)(h3:ZQ P e=some by_)(h4:Zh P e=some 1)(h0:0≤n)(h5:by_≤512)(h6:n≤137438953472)(h7:z.cells.size=1)(h8:z.oneCell'=true)
 (k:K (.ret (.list .full 1 (List.replicate n.toNat [cM z]))) σ):Wn P false t (.val (.int .i64 n)) (.val (.int .i64 n)) σ K:=by
 unfold Wn
 simp only [h1,h2,h3,h4]
 exact ⟨trivial,h0,h5,by simp only [lim];omega,h7,h8,k⟩
theorem HV {σ:Store}{K:ZO→Store→Prop}{w:World}{z:Value}(h:Pd true (YL z) σ K)(hσ:Zo σ w)(T:TypeId) :
 Bh σ w K (.ok (.pointer (some ⟨w.heap.size,0,none⟩)) (w.alloc (.cells z.cells T))):=by
 obtain ⟨h1,h2⟩:=PJ (L:=live σ) (w:=w) z
 have:=Pc h hσ T (vs:=z.cells.toList) h1.symm h2
 simpa using this
theorem Vy {P:Program}{ρ:Operand→Value}{o:Oper}{b:Builtin}{args:Array Operand}{ts:Array TypeId}(ho:o.op=.call { callee:=.builtin b,args,argTypes:=ts })(w:World) :
 (execOp ρ o).run P w=(builtin b ts o.type (args.map fun | .const _=>true | _=>false) (args.map ρ)).run P w:=by
 unfold execOp
 rw [ho]
 simp only [Sem.run_bind,resolve,Sem.run_pure,Result.andThen_ok,invoke]
 rfl
theorem Pa {P:Program}{b:Builtin}{ts:Array TypeId}{args:List AV}{σ:Store}{K:ZO→Store→Prop}{w:World}{vs:Array Value}{ty:TypeId}{cs:Array Bool}(h:Xg P b ts args σ K)(hσ:Zo σ w)(hv:Vs (live σ) w args vs.toList) :
 ∃ y w' av σ',(builtin b ts ty cs vs).run P w=.ok (.value y) w'∧V (live σ') w' av y∧Zo σ' w'∧Ev σ w σ' w'∧K (.ret av) σ':=by
 unfold Xg at h
 split at h
 ·rename_i sT xT s x hts
  obtain ⟨v0,v1,rfl⟩:∃ v0 v1,vs=#[v0,v1]:=by
   obtain ⟨l⟩:=vs
   have:=hv.1
   match l,this with
   | [a,b],_=>exact ⟨a,b,rfl⟩
  have ht:ts=#[sT,xT]:=Array.toList_inj.1 hts
  subst ht
  obtain ⟨y,w',av,σ',r1,r2,r3,r4,r5⟩:=PI (ty:=ty) h hσ (hv.2 0 _ v0 rfl rfl) (hv.2 1 _ v1 rfl rfl)
  exact ⟨y,w',av,σ',by simp [builtin,r1],r2,r3,r4,r5⟩
 ·rename_i t x hts
  obtain ⟨v0,rfl⟩:∃ v0,vs=#[v0]:=by
   obtain ⟨l⟩:=vs
   have:=hv.1
   match l,this with
   | [a],_=>exact ⟨a,rfl⟩
  have ht:ts=#[t]:=Array.toList_inj.1 hts
  subst ht
  obtain ⟨y,av,r1,r2,r3⟩:=KR (ty:=ty) h hσ (hv.2 0 _ v0 rfl rfl)
  exact ⟨y,w,av,σ,by simp [builtin,r1],r2,hσ,Ev.refl _ _,r3⟩
 ·obtain ⟨y,av,r1,r2,r3⟩:=KP (P:=P) (ts:=ts) (ty:=ty) h hv.1 hv.2
  exact ⟨y,w,av,σ,by simp [builtin,r1],r2,hσ,Ev.refl _ _,r3⟩
 ·obtain ⟨y,av,r1,r2,r3⟩:=KO (P:=P) (ts:=ts) (ty:=ty) h hv.1 hv.2
  exact ⟨y,w,av,σ,by simp [builtin,r1],r2,hσ,Ev.refl _ _,r3⟩
 ·exact eY
theorem KN {P:Program}{o:Oper}{x:Operand}{ax:AV}{K:AV→Prop}{L:Nat→Nat→Prop}{w:World}{ρ:Operand→Value}(ho:o.op=.nilCheck x)(h:Q3 ax K)(hx:V L w ax (ρ x)) :
 ∃ y av,(execOp ρ o).run P w=.ok (.value y) w∧V L w av y∧K av:=by
 unfold Q3 at h
 generalize hv:ρ x=v at hx
 split at h
 ·cases hx
  exact ⟨_,_,by simp only [execOp,ho,hv];rfl,.val _,h⟩
 ·cases hx
  exact ⟨_,_,by simp only [execOp,ho,hv];rfl,.val _,h⟩
 ·obtain ⟨b,o',rfl⟩:=hx.ro_form
  exact ⟨_,_,by simp only [execOp,ho,hv];rfl,hx,h⟩
 ·exact eY
theorem Lg {P:Program}{o:Oper}{f:Operand}{args:Array Operand}{ts:Array TypeId}{ev:Operand→AV}{σ:Store}{K:ZO→Store→Prop}(ho:o.op=.call { callee:=.value f,args,argTypes:=ts })
 (h:ZX P (ev f) (args.toList.map ev) σ K):AOp P o ev σ K:=by
 intro a w hσ hop next Q hn hp
 obtain ⟨g,first,cap,hf,hent,hc⟩:=h
 have hops:∀ x∈f::args.toList,V (live σ) w (ev x) (a.eval x):=by
  intro x hx
  apply hop
  rw [ho]
  simp only [Op.operands,Call.operands,Array.toList_append,List.mem_append]
  simpa using hx
 have hfv:=hops f List.mem_cons_self
 rw [hf] at hfv
 generalize hq:a.eval f=fv at hfv
 cases hfv
 have hargs:=Vs.map (L:=live σ) (w:=w) (ev:=ev) (ρ:=a.eval) args.toList (fun x hx=>hops x (List.mem_cons_of_mem _ hx))
 have hrun:(execOp a.eval o).run P w=.ok (.enter g (first++args.map a.eval++cap)) w:=by
  unfold execOp
  rw [ho]
  simp only [Sem.run_bind,resolve,hq,Deferred.ofValue,Sem.run_pure,Result.andThen_ok,invoke,Wq hent]
 unfold Oper.wp
 rw [hrun,Oper.upon_enter]
 refine (hc w _ hσ ?_).mono fun e w' he=>?_
 ·have:=((dQ (live σ) w first.toList).append hargs).append (dQ (live σ) w cap.toList)
  simpa using this
 ·cases e with
  | returned v=>obtain ⟨av,σ',q1,q2,q3,q4⟩:=he;exact hn av σ' v w' q1 q2 q3 q4
  | panicked chain=>obtain ⟨pv,σ',rfl,q1,q2,q3⟩:=he;exact hp pv σ' w' q1 q2 q3
  | outgrown=>exact he.elim
end Go.Vx
end
