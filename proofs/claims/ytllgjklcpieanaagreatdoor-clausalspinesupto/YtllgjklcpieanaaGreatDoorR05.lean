/- A part of the proof of clausalSpinesProved. -/
import Derived.Test.YtllgjklcpieanaaGreatDoorR04
import Derived.IntWalk
import Derived.RangeFuncRecord
import Derived.OrdersIn
import Derived.TacticsIn
import Derived.Tactics
import Derived.Deep.LoopGhost
set_option linter.unusedVariables false
set_option linter.unusedSimpArgs false
section
namespace Go.Vx
open Go.RowKit
def Wb(σ:Store)(w:nH)(R:ZE->Store->Prop):Ending->nH->Prop
 | .returned v,w'=>∃ av σ',R (.ret av) σ'/\V (live σ') w' av v/\Zq σ' w'/\Ev σ w σ' w'
 | .panicked chain,w'=>∃ pv σ',chain=[{ v:=pv,recovered:=false }]/\R (.pan pv) σ'/\Zq σ' w'/\Ev σ w σ' w'
 | .outgrown,_=>False
def Vs(L:Nat->Nat->Prop)(w:nH)(aS:List AV)(vs:List nG):Prop :=
 aS.length=vs.length/\∀ (i:Nat) (a:AV) (v:nG),aS[i]?=some a->vs[i]?=some v->V L w a v
def Zh(P:nE)(f:nL)(args:List AV)(σ:Store)(R:ZE->Store->Prop):Prop :=
 YV P f=true/\∀ (w:nH) (vs:nN nG),Zq σ w->Vs (live σ) w args vs.toList->Calls P f vs w (Wb σ w R)
abbrev fen (ro:nM Nat):Fence:={ Fence.wide with round:=ro }
def WN(P:nE)(l:Nat)(tv:AV)(σ:Store)(R:ZE->Store->Prop):Prop :=
 ∀ (w:nH) (v:nG),Zq σ w->V (live σ) w tv v->∃ r,w.heap[l]?=some (.loop r)/\r.params.size=1 /\
   ∀ ro m,RoundIn (fen ro) m P l r.fn ((r.params.zip #[v]).foldl (fun tmps (t,a)=>tmps.setIfInBounds t a) r.tmps) r.assign r.body w (Wb σ w R)
def ZH(P:nE)(f:AV)(args:List AV)(σ:Store)(R:ZE->Store->Prop):Prop :=
 (∃ g first cap,f=.val (.func (.func g) first cap)/\Zh P g (first.toList.map .val++args++cap.toList.map .val) σ R) \/
 ∃ l tv,f=.val (.func (.yield l) #[] #[])/\args=[tv]/\WN P l tv σ R
theorem Wb.mono{σ:Store}{w:nH}{R R':ZE->Store->Prop}(h:∀ r σ',R r σ'->R' r σ'){e:Ending}{w':nH}(k:Wb σ w R e w'):Wb σ w R' e w':=by
 cases e with
 | returned v=>obtain⟨av,σ',a,b⟩:=k;exact⟨av,σ',h _ _ a,b⟩
 | panicked c=>obtain⟨pv,σ',e,a,b⟩:=k;exact⟨pv,σ',e,h _ _ a,b⟩
 | outgrown=>exact k
theorem Zh.mono{P:nE}{f:nL}{args:List AV}{σ:Store}{R R':ZE->Store->Prop}(h:Zh P f args σ R)(k:∀ r σ',R r σ'->R' r σ'):Zh P f args σ R' :=
 ⟨h.1,fun w vs a b=>(h.2 w vs a b).mono fun _ _ e=>e.mono k⟩
theorem WN.mono{P:nE}{l:Nat}{tv:AV}{σ:Store}{R R':ZE->Store->Prop}(h:WN P l tv σ R)(k:∀ r σ',R r σ'->R' r σ'):WN P l tv σ R':=fun w v hσ hv =>
 let ⟨r,h1,h2,h3⟩:=h w v hσ hv;⟨r,h1,h2,fun ro m=>(h3 ro m).mono fun _ _ e=>e.mono k⟩
theorem ZH.mono{P:nE}{f:AV}{args:List AV}{σ:Store}{R R':ZE->Store->Prop}(h:ZH P f args σ R)(k:∀ r σ',R r σ'->R' r σ'):ZH P f args σ R':=by
 rcases h with⟨g,first,cap,e,h⟩|⟨l,tv,e1,e2,h⟩
 ·exact .inl ⟨g,first,cap,e,h.mono k⟩
 ·exact .inr ⟨l,tv,e1,e2,h.mono k⟩
theorem ZH.of{P:nE}{g:nL}{cap:nN nG}{args:List AV}{σ:Store}{R:ZE->Store->Prop}(h:Zh P g (args++cap.toList.map .val) σ R):ZH P (.val (.func (.func g) #[] cap)) args σ R :=
 .inl ⟨g,#[],cap,rfl,by simpa using h⟩
def PX(x:AV)(K:AV->Prop):Prop :=
 match x with
 | .val (.pointer (some a))=>K x
 | .val (.func (.func f) a b)=>K x
 | .ro cs=>K x
 | _=>False
def opC:nJ->Bool
 | .const _=>true
 | _=>false
def Y1(P:nE)(op:BinOp)(T:nF)(x y:AV)(yc:nJ)(K:AV->Prop):Prop :=
 match XQ P op T x y (opC yc) with
 | some v=>K v
 | none=>match op,x,y,yc,Yf P T with
   | .eql,.list _ _ es,_,.const (.slice none _ _),some _=>∀ b:Bool,(b=true->es=[])->K (.val (.bool b))
   | .neq,.list _ _ es,_,.const (.slice none _ _),some _=>∀ b:Bool,(b=false->es=[])->K (.val (.bool b))
   | op,.agg xs,.agg ys,_,_=>match dK xs,dK ys with
     | some vs,some us=>∃ r,(∀ (a b:nJ) (w:nH),(do eqGuard op T a b (.agg vs.toArray) (.agg us.toArray);binOp op T (.agg vs.toArray) (.agg us.toArray)).run P w=.ok r w)/\K (.val r)
     | _,_=>False
   | _,_,_,_,_=>False
def Wr(P:nE)(mu:Bool)(t:nF)(n c:AV)(σ:Store)(K:ZE->Store->Prop):Prop :=
 match n,c,Yf P t with
 | .val (.int .i64 n),.val (.int .i64 c),some e=>match Zy P e,ZY P e,ZB P e with
   | some z,some by_,some 1=>n=c/\0<=n/\by_<=512/\n<=lim/\z.cells.size=1/\z.oneCell'=true /\
    if mu then ∀ b,Zm σ b->K (.ret (.val (.slice (some ⟨b,0,none⟩) n.toNat n.toNat))) ((b,.cells (List.replicate n.toNat (dq z)))::σ)
    else K (.ret (.list .full 1 (List.replicate n.toNat [dq z]))) σ
   | _,_,_=>False
 | _,_,_=>False
def Xa(K:ZE->Store->Prop)(σ:Store):AV->Prop:=fun v=>K (.ret v) σ
def KI(K:ZE->Store->Prop):Store->Prop:=fun σ=>K (.ret .any) σ
def kRs(K:ZE->Store->Prop):AV->Store->Prop:=fun v σ=>K (.ret v) σ
def XG(P:nE)(b:Builtin)(ts:nN nF)(args:List AV)(σ:Store)(K:ZE->Store->Prop):Prop :=
 match b,ts.toList,args with
 | .append,[sT,xT],[s,x]=>Tk P sT xT s x σ (kRs K)
 | .len,[t],[x]=>VC P t x σ (Xa K σ)
 | .max,_,xs=>amm true xs (Xa K σ)
 | .min,_,xs=>amm false xs (Xa K σ)
 | _,_,_=>False
def D2(P:nE)(ts:List nF)(args:List AV)(σ:Store)(K:ZE->Store->Prop):Prop :=
 match ts,args with
 | [sT,xT],[s,x]=>TJ P sT xT s x σ (kRs K)
 | _,_=>False
def ZA(P:nE)(mu:Bool)(ev:nJ->AV)(σ:Store)(K:ZE->Store->Prop):Op->Prop
 | .move x=>K (.ret (ev x)) σ
 | .assign x=>K (.ret (ev x)) σ
 | .pick c a b=>match ev c with
   | .val (.bool x)=>K (.ret (if x then ev a else ev b)) σ
   | _=>False
 | .alloc T=>match Zy P T with
   | some z=>Px true (YE z) σ K
   | none=>False
 | .box T x=>match(ev x).cells with
   | some cs=>Px mu cs σ K
   | none=>False
 | .build t ps=>VD P t (ps.toList.map fun p=>(p.1,ev p.2)) (Xa K σ)
 | .buildSlice t n ps=>YH P t n (ps.toList.map fun p=>(p.1,ev p.2)) (Xa K σ)
 | .load T x=>We P T (ev x) σ (Xa K σ)
 | .store T x y=>UV P T (ev x) (ev y) σ (KI K)
 | .nilCheck x=>PX (ev x) (Xa K σ)
 | .binOp op T x y _=>Y1 P op T (ev x) (ev y) y (Xa K σ)
 | .unOp op _ x=>aun op (ev x) (Xa K σ)
 | .convert s d x=>OS P s d (ev x) (Xa K σ)
 | .makeInterface T x=>UY P T (ev x) (Xa K σ)
 | .makeFunc fn first cap=>match dK (first.toList.map ev),dK (cap.toList.map ev) with
   | some f,some c=>K (.ret (.val (.func fn f.toArray c.toArray))) σ
   | _,_=>False
 | .makeSlice t n c=>Wr P mu t (ev n) (ev c) σ K
 | .slice t x lo hi mx=>Tt P t (ev x) (lo.map ev) (hi.map ev) (mx.map ev) (Xa K σ)
 | .fieldAddr s x f=>WM P s (ev x) f (Xa K σ)
 | .field s x f=>Ti P s (ev x) f (Xa K σ)
 | .indexAddr t x i=>Ya P t (ev x) (ev i) (Xa K σ)
 | .index t x i=>Vj P t (ev x) (ev i) (Xa K σ)
 | .extract x i=>XP (ev x) i (Xa K σ)
 | .typeAssert x _ T ok=>SG P (ev x) T ok (Xa K σ)
 | .panic x=>match ev x with
   | .val (.iface t v)=>K (.pan (.iface t v)) σ
   | _=>False
 | .call { callee:=.value f,args,.. }=>ZH P (ev f) (args.toList.map ev) σ K
 | .call { callee:=.builtin b,args,argTypes }=>if mu&&B2 b then D2 P argTypes.toList (args.toList.map ev) σ K else XG P b argTypes (args.toList.map ev) σ K
 | .makeMap _ none=>SD σ K
 | .mapUpdate t m k v=>Um P t (ev m) (ev k) (ev v) σ (KI K)
 | .insert t m k v=>Um P t (ev m) (ev k) (ev v) σ (KI K)
 | .lookup t m k ok=>UX P t (ev m) (ev k) ok σ (Xa K σ)
 | .range t m=>NZ P t (ev m) σ K
 | .next it false=>IF (ev it) σ K
 | .entry it=>N7 (ev it) σ (Xa K σ)
 | _=>False
def AOp(P:nE)(o:nI)(ev:nJ->AV)(σ:Store)(K:ZE->Store->Prop):Prop :=
 ∀ (a:Act) (w:nH),Zq σ w->(∀ x∈o.op.operands.toList,V (live σ) w (ev x) (a.eval x))->∀ (next:Act->nH->Prop) (Q:Exit->Act->nH->Prop),
   (∀ av σ' v w',K (.ret av) σ'->V (live σ') w' av v->Zq σ' w'->Ev σ w σ' w'->next (a.put o.dst v) w') ->
   (∀ pv σ' w',K (.pan pv) σ'->Zq σ' w'->Ev σ w σ' w'->Q (.panic [{ v:=pv,recovered:=false }]) a w')->∀ ro m,o.wpIn (fen ro) m P a w next Q
theorem Wy{P:nE}{o:nI}{a:Act}{w:nH}{next:Act->nH->Prop}{Q:Exit->Act->nH->Prop}{x:Result Next}(h:(execOp a.eval o).run P w=x)(hnd:∀ c,o.op≠.defer c){ro:nM Nat}{m:Nat}(k:o.uponIn (fen ro) m P a next Q x):o.wpIn (fen ro) m P a w next Q:=by
 refine⟨fun _ _=>trivial,?_⟩
 rw[Oper.semAt_eq _ _ _ hnd,h]
 exact k
theorem ZT{P:nE}{o:nI}{a:Act}{w w':nH}{next:Act->nH->Prop}{Q:Exit->Act->nH->Prop}{v:nG}(h:(execOp a.eval o).run P w=.ok (.value v) w')(k:next (a.put o.dst v) w')(hnd:∀ c,o.op≠.defer c:=by intro c hc;rw[ho] at hc;cases hc):∀ ro m,o.wpIn (fen ro) m P a w next Q :=
 fun _ _=>Wy h hnd k
theorem Qb{P:nE}{o:nI}{a:Act}{w w':nH}{next:Act->nH->Prop}{Q:Exit->Act->nH->Prop}(h:(execOp a.eval o).run P w=.ok .skip w')(k:next (a.put o.dst undef) w')(hnd:∀ c,o.op≠.defer c:=by intro c hc;rw[ho] at hc;cases hc):∀ ro m,o.wpIn (fen ro) m P a w next Q :=
 fun _ _=>Wy h hnd k
theorem Aa{P:nE}{o:nI}{a:Act}{w w':nH}{next:Act->nH->Prop}{Q:Exit->Act->nH->Prop}{v:nG}(h:(execOp a.eval o).run P w=.halt (.panic v) w')(k:Q (.panic [{ v:=v,recovered:=false }]) a w')(hnd:∀ c,o.op≠.defer c:=by intro c hc;rw[ho] at hc;cases hc):∀ ro m,o.wpIn (fen ro) m P a w next Q :=
 fun _ _=>Wy h hnd k
theorem Vs.map{L:Nat->Nat->Prop}{w:nH}{ev:nJ->AV}{ρ:nJ->nG}(xs:List nJ)(h:∀ x∈xs,V L w (ev x) (ρ x)):Vs L w (xs.map ev) (xs.map ρ):=by
 refine⟨by simp,fun i a v ha hv=>?_⟩
 simp only[jp,kQ] at ha hv
 obtain⟨x,hx,rfl⟩:=ha
 obtain⟨y,hy,rfl⟩:=hv
 rw[hx] at hy
 injection hy with hy
 subst hy
 exact h x (iG hx)
theorem fW(L:Nat->Nat->Prop)(w:nH)(vs:List nG):Vs L w (vs.map .val) vs:=by
 refine⟨by simp,fun i a v ha hv=>?_⟩
 simp only[jp,kQ] at ha
 obtain⟨x,hx,rfl⟩:=ha
 rw[hv] at hx
 injection hx with hx
 subst hx
 exact .val _
theorem Vs.append{L:Nat->Nat->Prop}{w:nH}{aS bs:List AV}{vs us:List nG}(h:Vs L w aS vs)(k:Vs L w bs us):Vs L w (aS++bs) (vs++us):=by
 refine⟨by simp[h.1,k.1],fun i a v ha hv=>?_⟩
 by_cases hi:i<aS.length
 ·rw[jU hi] at ha
  rw[jU yk] at hv
  exact h.2 i a v ha hv
 ·rw[jT xh] at ha
  rw[jT (by rw[<- h.1];omega)] at hv
  exact k.2 _ a v ha (by rw[h.1];exact hv)
theorem P6{L:Nat->Nat->Prop}{w:nH}{cs:List AV}{vs xs:List nG}(h:dK cs=some vs)(k:Vs L w cs xs):xs=vs:=P7 cs vs xs h k.1 k.2
theorem LR{P:nE}{op:BinOp}{T:nF}{x y:nJ}{ax ay:AV}{a b:nG}{L:Nat->Nat->Prop}{w:nH}{K:AV->Prop}(h:Y1 P op T ax ay y K)(hx:V L w ax a)(hy:V L w ay b)
 (hyc:∀ c,y=.const c->b=c):∃ v av,(do eqGuard op T x y a b;binOp op T a b).run P w=.ok v w/\V L w av v/\K av:=by
 unfold Y1 at h
 split at h
 ·rename_i v hv
  obtain⟨u,h1,h2⟩:=JI (P:=P) (x:=x) (y:=y) hv (fun hh=>by cases y<;>simp_all [opC]) hx hy
  exact⟨u,v,h1,h2,h⟩
 ·split at h
  ·rename_i r s es n c _ _ _
   obtain⟨e,he⟩:∃ e,Yf P T=some e:=⟨_,by assumption⟩
   obtain⟨ad,cap,bb,o,xs,rfl,_,_,_,ha,_⟩:=hx.list_form
   have hb:=hyc _ rfl
   subst hb
   refine⟨.bool ad.isNone,_,?_,.val _,h ad.isNone (fun hn=>?_)⟩
   ·exact pV
   ·by_cases hne:es=[]
    ·exact hne
    ·rw[ha hne] at hn;simp at hn
  ·rename_i r s es n c _ _ _
   obtain⟨e,he⟩:∃ e,Yf P T=some e:=⟨_,by assumption⟩
   obtain⟨ad,cap,bb,o,xs,rfl,_,_,_,ha,_⟩:=hx.list_form
   have hb:=hyc _ rfl
   subst hb
   refine⟨.bool (!ad.isNone),_,?_,.val _,h (!ad.isNone) (fun hn=>?_)⟩
   ·exact pV
   ·by_cases hne:es=[]
    ·exact hne
    ·rw[ha hne] at hn;simp at hn
  ·rename_i xs ys _ _ _ _
   split at h
   ·rename_i vs us h1 h2
    obtain⟨r,hr,hk⟩:=h
    have e1:a=.agg vs.toArray:=UG (a:=.agg _) (by simp only[AV.toVal,h1]) hx
    have e2:b=.agg us.toArray:=UG (a:=.agg _) (by simp only[AV.toVal,h2]) hy
    subst e1;subst e2
    exact⟨r,_,hr x _ w,.val _,hk⟩
   ·exact h.elim
  ·exact h.elim
theorem Rv{P:nE}{mu:Bool}{t:nF}{n c:AV}{σ:Store}{K:ZE->Store->Prop}{w:nH}{nv cv:nG}(h:Wr P mu t n c σ K)(hσ:Zq σ w)(hn:V (live σ) w n nv)(hc:V (live σ) w c cv) :
 ∃ y w' av σ',(Instr.makeSlice t nv cv).run P w=.ok y w'/\V (live σ') w' av y/\Zq σ' w'/\Ev σ w σ' w'/\K (.ret av) σ':=by
 unfold Wr at h
 split at h
 ·rename_i n c e he
  cases hn;cases hc
  split at h
  ·rename_i z by_ hz hb hs
   obtain⟨rfl,h0,h1,h2,h3,h4,hk⟩:=h
   simp only[lim] at h2
   have hw:IntKind.i64.wrap n=n:=IntWalk.i64_in n xh
   have run:(Instr.makeSlice t (.int .i64 n) (.int .i64 n)).run P w=.ok (.slice (some ⟨w.heap.size,0,none⟩) n.toNat n.toNat) (w.alloc (.cells (List.replicate n.toNat z).toArray e)):=by
    have hzc:z.cells=#[z]:=by cases z<;>first|rfl|simp[Value.oneCell'] at h4
    have hbn:(by_:Int) * n<=512 * 137438953472:=by
     have:(by_:Int) * n<=512 * n:=Int.mul_le_mul_of_nonneg_right xh h0
     omega
    obtain⟨b1,b2⟩:=W1 (P:=P) hb w
    unfold Instr.makeSlice
    simp only[jZ,kB (Xr he),kC,asInt,asIntOf,kf,b1,b2,hw]
    rw[ig (by simp only[kH,kD,not_or];omega)]
    simp only[jZ,run_askRoom,kC,Z8 hs]
    by_cases hn0:n.toNat * 1=0
    ·simp only[hn0,iE,kf,kC,newRow,jZ,run_newObj]
     have hn':n.toNat=0:=by omega
     rw[hn',show(Array.range 0).map (fun x=>(#[]:nN nG)[x % (#[]:nN nG).size]!)=(List.replicate 0 z).toArray from by simp]
     rfl
    ·simp only[hn0,lJ,jZ,WV hz,kf,kC,newRow,run_newObj,hzc]
     have harr:(Array.range (n.toNat * 1)).map (fun x=>#[z][x % #[z].size]!)=(List.replicate n.toNat z).toArray:=by
      apply Array.ext
      ·simp
      ·intro i h1 h2
       simp[Nat.mod_one]
     rw[harr]
     rfl
   cases mu with
   | true =>
     have ev:=Ev.alloc hσ (.cells (List.replicate n.toNat z).toArray e) (.cells (List.replicate n.toNat (dq z)))
     refine⟨_,_,_,_,run,.val _,hσ.alloc (.cells (List.replicate n.toNat z).toArray e) _ (ej e xf (fun i c x hc hx=>?_)),ev,hk w.heap.size (hσ.fresh (kO _))⟩
     simp only[mr] at hc hx
     by_cases hi:i<n.toNat
     ·simp only[hi,iE,jq] at hc hx
      subst hc;subst hx
      exact eU _ _ _
     ·simp[hi] at hc
   | false =>
     refine⟨_,_,_,_,run,?_,hσ.alloc0 _,Ev.alloc0 _,hk⟩
     have key:∀ (i:Nat) (x:List AV) (j:Nat) (c:AV),(List.replicate n.toNat [dq z])[i]?=some x->x[j]?=some c->i<n.toNat/\j=0/\c=dq z:=by
      intro i x j c hx hc
      rw[mr] at hx
      split at hx
      ·injection hx with hx;subst hx
       cases j with
       | zero=>simp at hc;exact⟨by assumption,rfl,hc.symm⟩
       | succ j=>simp at hc
      ·cases hx
     have:=V.list (L:=live σ) (w:=w.alloc (.cells (List.replicate n.toNat z).toArray e)) .full 1 (List.replicate n.toNat [dq z]) n.toNat (some ⟨w.heap.size,0,none⟩) w.heap.size 0 (fun _=>z) xf (by simp only[List.length_replicate,lim];omega)
      (fun i x hx=>by rw[mr] at hx;split at hx<;>simp at hx;subst hx;rfl) (fun _=>rfl) (by simp[Py]) (fun i x j c hx hc=>by
       obtain⟨hi,rfl,rfl⟩:=key i x j c hx hc
       refine⟨fun hl=>by have:=Ng hσ hl;omega,?_,h4⟩
       unfold World.cell?
       rw[Xb]
       simp[hi]) (fun i x j c hx hc=>by obtain⟨_,_,rfl⟩:=key i x j c hx hc;exact eU _ _ _)
     simpa using this
  ·exact h.elim
 ·exact h.elim
theorem GP{σ:Store}{K:ZE->Store->Prop}{w:nH}{z:nG}(h:Px true (YE z) σ K)(hσ:Zq σ w)(T:nF) :
 BX σ w K (.ok (.pointer (some ⟨w.heap.size,0,none⟩)) (w.alloc (.cells z.cells T))):=by
 obtain⟨h1,h2⟩:=P2 (L:=live σ) (w:=w) z
 have:=Pw h hσ T (vs:=z.cells.toList) h1.symm h2
 simpa using this
theorem VH{P:nE}{ρ:nJ->nG}{o:nI}{b:Builtin}{args:nN nJ}{ts:nN nF}(ho:o.op=.call { callee:=.builtin b,args,argTypes:=ts })(w:nH) :
 (execOp ρ o).run P w=(builtin b ts o.type (args.map fun|.const _=>true|_=>false) (args.map ρ)).run P w:=by
 unfold execOp
 rw[ho]
 simp only[jZ,resolve,kf,kC,invoke]
 rfl
theorem Pu{P:nE}{b:Builtin}{ts:nN nF}{args:List AV}{σ:Store}{K:ZE->Store->Prop}{w:nH}{vs:nN nG}{ty:nF}{cs:nN Bool}(h:XG P b ts args σ K)(hσ:Zq σ w)(hv:Vs (live σ) w args vs.toList) :
 ∃ y w' av σ',(builtin b ts ty cs vs).run P w=.ok (.value y) w'/\V (live σ') w' av y/\Zq σ' w'/\Ev σ w σ' w'/\K (.ret av) σ':=by
 unfold XG at h
 split at h
 ·rename_i sT xT s x hts
  obtain⟨v0,v1,rfl⟩:∃ v0 v1,vs=#[v0,v1]:=by
   obtain⟨l⟩:=vs
   have:=hv.1
   match l,this with
   | [a,b],_=>exact⟨a,b,rfl⟩
  have ht:ts=#[sT,xT]:=Array.toList_inj.1 hts
  subst ht
  obtain⟨y,w',av,σ',r1,r2,r3,r4,r5⟩:=P1 (ty:=ty) h hσ (hv.2 0 _ v0 rfl rfl) (hv.2 1 _ v1 rfl rfl)
  exact⟨y,w',av,σ',by simp[builtin,r1],r2,r3,r4,r5⟩
 ·rename_i t x hts
  obtain⟨v0,rfl⟩:∃ v0,vs=#[v0]:=by
   obtain⟨l⟩:=vs
   have:=hv.1
   match l,this with
   | [a],_=>exact⟨a,rfl⟩
  have ht:ts=#[t]:=Array.toList_inj.1 hts
  subst ht
  obtain⟨y,av,r1,r2,r3⟩:=Jx (ty:=ty) h hσ (hv.2 0 _ v0 rfl rfl)
  exact sg
 ·obtain⟨y,av,r1,r2,r3⟩:=Jt (P:=P) (ts:=ts) (ty:=ty) h hv.1 hv.2
  exact sg
 ·obtain⟨y,av,r1,r2,r3⟩:=Js (P:=P) (ts:=ts) (ty:=ty) h hv.1 hv.2
  exact sg
 ·exact h.elim
theorem Jr{P:nE}{o:nI}{x:nJ}{ax:AV}{K:AV->Prop}{L:Nat->Nat->Prop}{w:nH}{ρ:nJ->nG}(ho:o.op=.nilCheck x)(h:PX ax K)(hx:V L w ax (ρ x)) :
 ∃ y av,(execOp ρ o).run P w=.ok (.value y) w/\V L w av y/\K av:=by
 unfold PX at h
 generalize hv:ρ x=v at hx
 split at h
 ·cases hx
  exact⟨_,_,by simp only[execOp,ho,hv];rfl,.val _,h⟩
 ·cases hx
  exact⟨_,_,by simp only[execOp,ho,hv];rfl,.val _,h⟩
 ·obtain⟨b,o',rfl⟩:=hx.ro_form
  exact⟨_,_,by simp only[execOp,ho,hv];rfl,hx,h⟩
 ·exact h.elim
theorem LQ{P:nE}{o:nI}{f:nJ}{args:nN nJ}{ts:nN nF}{ev:nJ->AV}{σ:Store}{K:ZE->Store->Prop}(ho:o.op=.call { callee:=.value f,args,argTypes:=ts })
 (h:ZH P (ev f) (args.toList.map ev) σ K):AOp P o ev σ K:=by
 intro a w hσ hop next Q hn hp ro m
 have hnd:∀ c,o.op≠.defer c:=by intro c hc;rw[ho] at hc;cases hc
 have hops:∀ x∈f::args.toList,V (live σ) w (ev x) (a.eval x):=by
  intro x hx
  apply hop
  rw[ho]
  simp only[Op.operands,Call.operands,Array.toList_append,mi]
  simpa using hx
 have hfv:=hops f ir
 have hargs:=Vs.map (L:=live σ) (w:=w) (ev:=ev) (ρ:=a.eval) args.toList (fun x hx=>hops x (kR _ hx))
 have fin:∀ e w',Wb σ w K e w'->(match e with
  | .returned v=>next (a.put o.dst v) w'
  | .panicked chain=>Q (.panic chain) a w'
  | .outgrown=>LetsOut Q):=by
  intro e w' he
  cases e with
  | returned v=>obtain⟨av,σ',q1,q2,q3,q4⟩:=he;exact hn av σ' v w' q1 q2 q3 q4
  | panicked chain=>obtain⟨pv,σ',rfl,q1,q2,q3⟩:=he;exact hp pv σ' w' q1 q2 q3
  | outgrown=>exact he.elim
 rcases h with⟨g,first,cap,hf,hent,hc⟩|⟨l,tv,hf,ha,hr⟩
 ·rw[hf] at hfv
  generalize hq:a.eval f=fv at hfv
  cases hfv
  have hrun:(execOp a.eval o).run P w=.ok (.enter g (first++args.map a.eval++cap)) w:=by
   unfold execOp
   rw[ho]
   simp only[jZ,resolve,hq,Deferred.ofValue,kf,kC,invoke,XN hent]
  refine Wy hrun hnd ?_
  refine⟨fun h=>by simp[fen,Fence.wide] at h,?_⟩
  refine(callsIn_wide (n:=m-1)).2 ((hc w _ hσ ?_).mono fun e w' he=>?_)
  ·have:=((fW (live σ) w first.toList).append hargs).append (fW (live σ) w cap.toList)
   simpa using this
  ·have:=fin e w' he;cases e<;>exact this
 ·rw[hf] at hfv
  generalize hq:a.eval f=fv at hfv
  cases hfv
  rw[ha] at hargs
  obtain⟨v0,hv0,hvs⟩:∃ v0,V (live σ) w tv v0/\args.toList.map a.eval=[v0]:=by
   match hq2:args.toList.map a.eval,hargs with
   | [x],h=>exact⟨x,h.2 0 tv x rfl rfl,rfl⟩
   | [],h=>exact absurd h.1 xf
   | _::_::_,h=>exact absurd h.1 xf
  have hva:args.map a.eval=#[v0]:=Array.toList_inj.1 (by simpa using hvs)
  obtain⟨r,h1,h2,h3⟩:=hr w v0 hσ hv0
  have hrun:(execOp a.eval o).run P w=.ok (.round l r.fn ((r.params.zip #[v0]).foldl (fun tmps (t,a)=>tmps.setIfInBounds t a) r.tmps) r.assign r.body) w:=by
   unfold execOp
   rw[ho]
   simp only[jZ,resolve,hq,Deferred.ofValue,kf,kC,invoke]
   have:=run_yield (P:=P) (args:=#[v0]) h1 (by simp[h2])
   simpa[hva] using this
  refine Wy hrun hnd ?_
  refine⟨fun h=>by simp[fen,Fence.wide] at h,?_⟩
  exact(h3 ro (m-1)).mono fun e w' he=>by have:=fin e w' he;cases e<;>exact this
open Go.RowKit
theorem ZR{P:nE}{ρ:nJ->nG}{o:nI}{s:Sem nG}{w w':nH}{v:nG}(ho:execOp ρ o=(do pure (.value (<- s))))(h:s.run P w=.ok v w'):(execOp ρ o).run P w=.ok (.value v) w':=by
 rw[ho];simp[h]
theorem Rk{P:nE}{ρ:nJ->nG}{o:nI}{s:Sem Unit}{w w':nH}(ho:execOp ρ o=(do s;pure .skip))(h:s.run P w=.ok () w'):(execOp ρ o).run P w=.ok .skip w':=by
 rw[ho];simp[h]
theorem MT{ev:nJ->AV}{ρ:nJ->nG}(ps:nN (Nat×nJ)):(ps.toList.map fun p=>(p.1,ev p.2)).map (·.1)=(ps.map fun(i,x)=>(i,ρ x)).toList.map (·.1):=by
 simp[ki,Function.comp_def]
theorem Md{L:Nat->Nat->Prop}{w:nH}{ev:nJ->AV}{ρ:nJ->nG}(ps:nN (Nat×nJ))(h:∀ p∈ps.toList,V L w (ev p.2) (ρ p.2)) :
 ∀ (i:Nat) (p:Nat×AV) (q:Nat×nG),(ps.toList.map fun p=>(p.1,ev p.2))[i]?=some p->(ps.map fun(i,x)=>(i,ρ x)).toList[i]?=some q->V L w p.2 q.2:=by
 intro i p q hp hq
 simp only[Array.toList_map,jp,kQ] at hp hq
 obtain⟨x,hx,rfl⟩:=hp
 obtain⟨y,hy,rfl⟩:=hq
 rw[hx] at hy
 injection hy with hy
 subst hy
 exact h x (iG hx)
set_option maxHeartbeats 1000000 in
theorem YW{P:nE}{mu:Bool}{o:nI}{ev:nJ->AV}{σ:Store}{K:ZE->Store->Prop}(h:ZA P mu ev σ K o.op):AOp P o ev σ K:=by
 cases ho:o.op with
 | move x =>
   exact qL
 | assign x =>
   exact qL
 | pick c x y =>
   rw[ho] at h;simp only[ZA] at h;intro a w hσ hop next Q hn hp;rw[ho] at hop
   split at h
   ·rename_i b hb
    have hc:=hop c yh
    rw[hb] at hc
    generalize hq:a.eval c=cv at hc
    cases hc
    refine ZT (v:=if b then a.eval x else a.eval y) ?_ (hn _ _ _ _ h ?_ hσ (Ev.refl _ _))
    ·unfold execOp;rw[ho];simp[asBool,hq]
    ·cases b
     ·exact hop y yh
     ·exact hop x yh
   ·exact h.elim
 | alloc T =>
   rw[ho] at h;simp only[ZA] at h;intro a w hσ hop next Q hn hp
   split at h
   ·rename_i z hz
    obtain⟨av,σ',k1,k2,k3,k4⟩:=GP h hσ T
    exact ZT (ZR (s:=Instr.alloc T true (.tuple #[])) yo (by simp only[Instr.alloc,jZ,WV hz,kC];rfl)) (hn _ _ _ _ k1 k2 k3 k4)
   ·exact h.elim
 | box T x =>
   rw[ho] at h;simp only[ZA] at h;intro a w hσ hop next Q hn hp;rw[ho] at hop
   split at h
   ·rename_i cs hc
    obtain⟨c1,c2⟩:=(hop x yh).cells_of hc
    obtain⟨av,σ',k1,k2,k3,k4⟩:=Pw h hσ T c1 c2
    exact ZT (ZR (s:=Instr.box T (a.eval x)) yo (by simp only[Instr.box,newVar,newRow,jZ,run_newObj,kC,kf];rfl)) (hn _ _ _ _ k1 (by simpa using k2) (by simpa using k3) (by simpa using k4))
   ·exact h.elim
 | build t ps =>
   rw[ho] at h;simp only[ZA] at h;intro a w hσ hop next Q hn hp;rw[ho] at hop
   obtain⟨y,av,r1,r2,r3⟩:=N8 (P:=P) (L:=live σ) (w:=w) (qs:=ps.map fun(i,x)=>(i,a.eval x)) h (MT ps) (Md ps (fun p hp=>hop p.2 yU))
   exact ZT (ZR (s:=Instr.build t (ps.map fun(i,x)=>(i,a.eval x))) yo r1) (hn _ _ _ _ r3 r2 hσ (Ev.refl _ _))
 | buildSlice t n ps =>
   rw[ho] at h;simp only[ZA] at h;intro a w hσ hop next Q hn hp;rw[ho] at hop
   obtain⟨y,w',av,r1,r2,r3,r4,r5⟩:=SF (P:=P) (σ:=σ) (w:=w) (qs:=ps.map fun(i,x)=>(i,a.eval x)) h hσ (MT ps) (Md ps (fun p hp=>hop p.2 yU))
   exact ZT (ZR (s:=Instr.buildSlice t n (ps.map fun(i,x)=>(i,a.eval x))) yo r1) (hn _ _ _ _ r5 r2 r3 r4)
 | load T x =>
   rw[ho] at h;simp only[ZA] at h;intro a w hσ hop next Q hn hp;rw[ho] at hop
   obtain⟨y,av,r1,r2,r3⟩:=RT h hσ (hop x yh)
   exact ZT (ZR (s:=Instr.loadAt T (a.eval x)) yo r1) (hn _ _ _ _ r3 r2 hσ (Ev.refl _ _))
 | store T x y =>
   rw[ho] at h;simp only[ZA] at h;intro a w hσ hop next Q hn hp;rw[ho] at hop
   obtain⟨w',σ',r1,r2,r3,r4⟩:=NT h hσ (hop x yh) (hop y yh)
   exact Qb (Rk (s:=Instr.storeAt T (a.eval x) (a.eval y)) yo r1) (hn _ _ _ _ r4 (.any _) r2 r3)
 | nilCheck x =>
   rw[ho] at h;simp only[ZA] at h;intro a w hσ hop next Q hn hp;rw[ho] at hop
   obtain⟨y,av,r1,r2,r3⟩:=Jr (P:=P) ho h (hop x yh)
   exact ZT r1 (hn _ _ _ _ r3 r2 hσ (Ev.refl _ _))
 | binOp op T x y yT =>
   rw[ho] at h;simp only[ZA] at h;intro a w hσ hop next Q hn hp;rw[ho] at hop
   obtain⟨v,av,r1,r2,r3⟩:=LR (P:=P) (op:=op) (T:=T) (x:=x) (y:=y) h (hop x yh) (hop y yh) (fun c hc=>by subst hc;rfl)
   exact ZT (ZR (s:=do eqGuard op T x y (a.eval x) (a.eval y);binOp op T (a.eval x) (a.eval y)) yo r1) (hn _ _ _ _ r3 r2 hσ (Ev.refl _ _))
 | unOp op T x =>
   rw[ho] at h;simp only[ZA] at h;intro a w hσ hop next Q hn hp;rw[ho] at hop
   obtain⟨v,av,r1,r2,r3⟩:=Gr (P:=P) h (hop x yh)
   exact ZT (ZR (s:=Op.unary op (a.eval x)) yo r1) (hn _ _ _ _ r3 r2 hσ (Ev.refl _ _))
 | convert s d x =>
   rw[ho] at h;simp only[ZA] at h;intro a w hσ hop next Q hn hp;rw[ho] at hop
   obtain⟨v,av,r1,r2,r3⟩:=LO (P:=P) h (hop x yh)
   exact ZT (ZR (s:=convert s d (a.eval x)) yo r1) (hn _ _ _ _ r3 r2 hσ (Ev.refl _ _))
 | makeInterface T x =>
   rw[ho] at h;simp only[ZA] at h;intro a w hσ hop next Q hn hp;rw[ho] at hop
   obtain⟨v,av,r1,r2,r3⟩:=N3 (P:=P) h (hop x yh)
   exact ZT (ZR (s:=Instr.makeInterface T (a.eval x)) yo r1) (hn _ _ _ _ r3 r2 hσ (Ev.refl _ _))
 | makeFunc fn first cap =>
   rw[ho] at h;simp only[ZA] at h;intro a w hσ hop next Q hn hp;rw[ho] at hop
   split at h
   ·rename_i f c hf hc
    have e1:=P6 hf (Vs.map (L:=live σ) (w:=w) (ev:=ev) (ρ:=a.eval) first.toList (fun x hx=>hop x (by simp only[Op.operands,Array.toList_append,mi];exact .inl hx)))
    have e2:=P6 hc (Vs.map (L:=live σ) (w:=w) (ev:=ev) (ρ:=a.eval) cap.toList (fun x hx=>hop x (by simp only[Op.operands,Array.toList_append,mi];exact .inr hx)))
    refine ZT (v:=.func fn f.toArray c.toArray) ?_ (hn _ _ _ _ h (.val _) hσ (Ev.refl _ _))
    subst e1;subst e2
    unfold execOp;rw[ho];simp[Instr.makeFunc]
    exact⟨Array.toList_inj.1 xf,Array.toList_inj.1 xf⟩
   ·exact h.elim
 | makeSlice t n c =>
   rw[ho] at h;simp only[ZA] at h;intro a w hσ hop next Q hn hp;rw[ho] at hop
   obtain⟨y,w',av,σ',r1,r2,r3,r4,r5⟩:=Rv (P:=P) h hσ (hop n yh) (hop c yh)
   exact ZT (ZR (s:=Instr.makeSlice t (a.eval n) (a.eval c)) yo r1) (hn _ _ _ _ r5 r2 r3 r4)
 | slice t x lo hi mx =>
   rw[ho] at h;simp only[ZA] at h;intro a w hσ hop next Q hn hp;rw[ho] at hop
   have opt:∀ (z:nM nJ),(∀ y,z=some y->V (live σ) w (ev y) (a.eval y))->(z.map ev=none↔z.map a.eval=none)/\∀ p u,z.map ev=some p->z.map a.eval=some u->V (live σ) w p u:=by
    intro z hz
    cases z with
    | none=>simp
    | some y=>simp only[jX,reduceCtorEq,jq,jt];rintro p u rfl rfl;exact hz y rfl
   have o1:=opt lo (fun y hy=>hop y yx)
   have o2:=opt hi (fun y hy=>hop y yx)
   have o3:=opt mx (fun y hy=>hop y yx)
   obtain⟨v,av,r1,r2,r3⟩:=JD (P:=P) h (hop x yh) o1.1 o1.2 o2.1 o2.2 o3.1 o3.2
   exact ZT (ZR (s:=Instr.sliceAt t (a.eval x) (lo.map a.eval) (hi.map a.eval) (mx.map a.eval)) yo r1) (hn _ _ _ _ r3 r2 hσ (Ev.refl _ _))
 | fieldAddr s x f =>
   rw[ho] at h;simp only[ZA] at h;intro a w hσ hop next Q hn hp;rw[ho] at hop
   obtain⟨v,av,r1,r2,r3⟩:=N4 (P:=P) h (hop x yh)
   exact ZT (ZR (s:=Instr.fieldAt s (a.eval x) f) yo r1) (hn _ _ _ _ r3 r2 hσ (Ev.refl _ _))
 | field s x f =>
   rw[ho] at h;simp only[ZA] at h;intro a w hσ hop next Q hn hp;rw[ho] at hop
   obtain⟨v,av,r1,r2,r3⟩:=PZ (P:=P) h (hop x yh)
   exact ZT (ZR (s:=Instr.field s (a.eval x) f) yo r1) (hn _ _ _ _ r3 r2 hσ (Ev.refl _ _))
 | indexAddr t x i =>
   rw[ho] at h;simp only[ZA] at h;intro a w hσ hop next Q hn hp;rw[ho] at hop
   obtain⟨v,av,r1,r2,r3⟩:=Rw (P:=P) h (hop x yh) (hop i yh)
   exact ZT (ZR (s:=Instr.indexAt t (a.eval x) (a.eval i)) yo r1) (hn _ _ _ _ r3 r2 hσ (Ev.refl _ _))
 | index t x i =>
   rw[ho] at h;simp only[ZA] at h;intro a w hσ hop next Q hn hp;rw[ho] at hop
   obtain⟨v,av,r1,r2,r3⟩:=N2 (P:=P) h (hop x yh) (hop i yh)
   exact ZT (ZR (s:=Instr.index t (a.eval x) (a.eval i)) yo r1) (hn _ _ _ _ r3 r2 hσ (Ev.refl _ _))
 | extract x i =>
   rw[ho] at h;simp only[ZA] at h;intro a w hσ hop next Q hn hp;rw[ho] at hop
   obtain⟨v,av,r1,r2,r3⟩:=Ps (P:=P) h (hop x yh)
   exact ZT (ZR (s:=Instr.extract (a.eval x) i) yo r1) (hn _ _ _ _ r3 r2 hσ (Ev.refl _ _))
 | typeAssert x xT T ok =>
   rw[ho] at h;simp only[ZA] at h;intro a w hσ hop next Q hn hp;rw[ho] at hop
   obtain⟨v,av,r1,r2,r3⟩:=P0 (P:=P) (xT:=xT) h (hop x yh)
   exact ZT (ZR (s:=Instr.typeAssert (a.eval x) xT T ok) yo r1) (hn _ _ _ _ r3 r2 hσ (Ev.refl _ _))
 | panic x =>
   rw[ho] at h;simp only[ZA] at h;intro a w hσ hop next Q hn hp;rw[ho] at hop
   split at h
   ·rename_i t v hv
    have hx:=hop x yh
    rw[hv] at hx
    generalize hq:a.eval x=xv at hx
    cases hx
    exact Aa (v:=.iface t v) (by unfold execOp;rw[ho];simp[Instr.panic,hq]) (hp _ _ _ h hσ (Ev.refl _ _))
   ·exact h.elim
 | call c =>
   rw[ho] at h
   obtain⟨callee,args,ts⟩:=c
   cases callee with
   | value f=>simp only[ZA] at h;exact LQ ho h
   | invoke r m=>simp only[ZA] at h
   | builtin b =>
     simp only[ZA] at h
     split at h
     ·rename_i hmu
      intro a w hσ hop next Q hn hp;rw[ho] at hop
      have hb:b=.append:=by cases b<;>simp_all [B2]
      subst hb
      refine wW fun hargs=>?_
      unfold D2 at h
      split at h
      ·rename_i sT xT s x hts hax
       obtain⟨v0,v1,hvs⟩:∃ v0 v1,args.map a.eval=#[v0,v1]:=by
        have hl:=hargs.1
        rw[hax] at hl
        have:(args.map a.eval).toList.length=2:=by simpa using hl.symm
        match hq:(args.map a.eval).toList,this with
        | [p,q],_=>exact⟨p,q,Array.toList_inj.1 (by rw[hq])⟩
       have ht:ts=#[sT,xT]:=Array.toList_inj.1 hts
       subst ht
       have hv2:args.toList.map a.eval=[v0,v1]:=by have:=je Array.toList hvs;simpa using this
       rw[hax,hv2] at hargs
       obtain⟨y,w',av,σ',r1,r2,r3,r4,r5⟩:=LT (ty:=o.type) h hσ (hargs.2 0 _ v0 rfl rfl) (hargs.2 1 _ v1 rfl rfl)
       exact ZT (by rw[VH ho,hvs];simp[builtin,r1]) (hn _ _ _ _ r5 r2 r3 r4)
      ·exact h.elim
     intro a w hσ hop next Q hn hp;rw[ho] at hop
     refine wW fun hargs=>?_
     obtain⟨y,w',av,σ',r1,r2,r3,r4,r5⟩:=Pu (P:=P) (ty:=o.type) (cs:=args.map fun|.const _=>true|_=>false) (vs:=args.map a.eval) h hσ (by simpa using hargs)
     exact ZT (by rw[VH ho];exact r1) (hn _ _ _ _ r5 r2 r3 r4)
 | makeMap t r =>
   rw[ho] at h
   cases r with
   | some r=>simp only[ZA] at h
   | none =>
     simp only[ZA] at h;intro a w hσ hop next Q hn hp;rw[ho] at hop
     obtain⟨v,w',av,σ',r1,r2,r3,r4,r5⟩:=Pk (P:=P) (t:=t) h hσ
     exact ZT (ZR (s:=Instr.makeMap t none) (by unfold execOp;rw[ho];rfl) r1) (hn _ _ _ _ r5 r2 r3 r4)
 | mapUpdate t m k x =>
   exact pF
 | insert t m k x =>
   exact pF
 | lookup t m k ok =>
   rw[ho] at h;simp only[ZA] at h;intro a w hσ hop next Q hn hp;rw[ho] at hop
   obtain⟨v,av,r1,r2,r3⟩:=LK (P:=P) h hσ (hop m yh) (hop k yh)
   exact ZT (ZR (s:=Instr.lookup t (a.eval m) (a.eval k) ok) yo r1) (hn _ _ _ _ r3 r2 hσ (Ev.refl _ _))
 | range t m =>
   rw[ho] at h;simp only[ZA] at h;intro a w hσ hop next Q hn hp;rw[ho] at hop
   obtain⟨v,w',av,σ',r1,r2,r3,r4,r5⟩:=NY (P:=P) h hσ (hop m yh)
   exact ZT (ZR (s:=Instr.range t (a.eval m)) yo r1) (hn _ _ _ _ r5 r2 r3 r4)
 | next it str =>
   rw[ho] at h
   cases str with
   | true=>simp only[ZA] at h
   | false =>
     simp only[ZA] at h;intro a w hσ hop next Q hn hp;rw[ho] at hop
     obtain⟨v,w',av,σ',r1,r2,r3,r4,r5⟩:=LJ (P:=P) (ty:=o.type) h hσ (hop it yh)
     exact ZT (ZR (s:=Instr.next (a.eval it) false o.type) yo r1) (hn _ _ _ _ r5 r2 r3 r4)
 | entry it =>
   rw[ho] at h;simp only[ZA] at h;intro a w hσ hop next Q hn hp;rw[ho] at hop
   obtain⟨v,av,r1,r2,r3⟩:=N6 (P:=P) h hσ (hop it yh)
   exact ZT (ZR (s:=Instr.entry (a.eval it)) yo r1) (hn _ _ _ _ r3 r2 hσ (Ev.refl _ _))
 | _=>rw[ho] at h;simp only[ZA] at h
open Go.RowKit
def kOp(k:((Exit->Fr->Store->Prop)->Fr->Store->Prop))(Q:Exit->Fr->Store->Prop)(fr:Fr)(d:nM Nat):ZE->Store->Prop
 | .ret v,σ=>k Q (fr.putO d v) σ
 | .pan pv,σ=>Q (.panic [{ v:=pv,recovered:=false }]) fr σ
def XV(ops:nN nI)(g:nM (Nat×Bool))(fr:Fr)(A B:Fr->Prop):Prop :=
 match g with
 | none=>A fr
 | some (j,want)=>match(ops[j]?).bind (·.dst) with
   | some d=>match fr d with
     | .val (.bool x)=>(x=want->A (fr.put d (.val (.bool want))))/\(x=(!want)->B (fr.put d (.val (.bool (!want)))))
     | .val (.tuple ⟨[]⟩)=>B fr
     | _=>False
   | none=>False
def kDo(P:nE)(mu:List Nat)(k:((Exit->Fr->Store->Prop)->Fr->Store->Prop))(Q:Exit->Fr->Store->Prop)(σ:Store)(o:nI):Fr->Prop :=
 fun fr=>ZA P (match o.dst with|some d=>mu.contains d|none=>false) fr.ev σ (kOp k Q fr o.dst) o.op
def Ov(k:((Exit->Fr->Store->Prop)->Fr->Store->Prop))(Q:Exit->Fr->Store->Prop)(σ:Store)(d:nM Nat):Fr->Prop:=fun fr=>k Q (fr.putO d (.val undef)) σ
def XU(P:nE)(mu:List Nat)(ops:nN nI):List nI->(Exit->Fr->Store->Prop)->Fr->Store->Prop
 | [],Q,fr,σ=>Q .normal fr σ
 | o::r,Q,fr,σ=>XV ops o.guard fr (kDo P mu (XU P mu ops r) Q σ o) (Ov (XU P mu ops r) Q σ o.dst)
structure YL (n:Nat) (ds:List Deferred) (σ:Store) (fr:Fr) (a:Act) (w:World):Prop where
 defers:a.defers=ds
 fr:XM n (live σ) w fr a.tmps
 ok:Zq σ w
def AWp(P:nE)(n:Nat)(ds:List nK)(c:Code)(Q:Exit->Fr->Store->Prop)(fr:Fr)(σ:Store):Prop :=
 ∀ a w,YL n ds σ fr a w->∀ Q':Exit->Act->nH->Prop,(∀ e fr' σ' a' w',Q e fr' σ'->YL n ds σ' fr' a' w'->Ev σ w σ' w'->Q' e a' w')->∀ ro m,c.wpIn (fen ro) m P Q' a w
def opB(n:Nat)(o:nI):Bool:=o.op.operands.toList.all (dT n)&&(match o.dst with|some d=>d<n|none=>true)
theorem Xh{n:Nat}{o:nI}(h:opB n o=true):∀ k,o.dst=some k->k<n:=by
 intro k hk
 unfold opB at h
 simp only[kJ,hk,kD] at h
 exact h.2
theorem X7{n:Nat}{o:nI}(h:opB n o=true):∀ x∈o.op.operands.toList,dT n x=true:=by
 intro x hx
 unfold opB at h
 simp only[kJ] at h
 exact List.all_eq_true.1 h.1 x hx
theorem XM.same{n:Nat}{L:Nat->Nat->Prop}{w:nH}{fr:Fr}{tmps:nN nG}(h:XM n L w fr tmps){d:Nat}{v:nG}(hd:d<n->tmps.getD d undef=v):XM n L w (fr.put d (.val v)) tmps :=
 ⟨h.size,fun i hi=>by
  by_cases e:i=d
  ·subst e;rw[hd hi];simp only[Fr.put,iE];exact .val _
  ·simp only[Fr.put,e,lJ];exact h.slot i hi⟩
theorem WU{ops:nN nI}{o:nI}{fr:Fr}{A B:Fr->Prop}{n:Nat}{L:Nat->Nat->Prop}{w:nH}{a:Act}(h:XV ops o.guard fr A B)(hf:XM n L w fr a.tmps)(hn:∀ (j d:Nat),(ops[j]?).bind (·.dst)=some d->d<n) :
 (Region.wanted o (yielded ops a.tmps)=true/\∃ fr',XM n L w fr' a.tmps/\A fr')\/(Region.wanted o (yielded ops a.tmps)=false/\∃ fr',XM n L w fr' a.tmps/\B fr'):=by
 unfold XV at h
 unfold Region.wanted
 split at h
 ·rename_i hg
  rw[hg]
  exact .inl ⟨rfl,fr,hf,h⟩
 ·rename_i j want hg
  rw[hg]
  split at h
  ·rename_i d hd
   have hdn:=hn j d hd
   have hs:=hf.slot d hdn
   have hsz:d<a.tmps.size:=by rw[hf.size];exact hdn
   have hy:yielded ops a.tmps j=match a.tmps.getD d undef with|.bool b=>some b|_=>none:=by
    unfold yielded
    rw[hd]
    simp only[jk,jO,jK hsz,ko]
    cases a.tmps[d]<;>rfl
   simp only[hy]
   split at h
   ·rename_i x hx
    rw[hx] at hs
    generalize hv:a.tmps.getD d undef=v at hs
    cases hs
    by_cases e:x=want
    ·subst e
     exact .inl ⟨by simp,_,hf.same (fun _=>hv),h.1 rfl⟩
    ·have e2:x=!want:=by cases x<;>cases want<;>simp_all
     refine .inr ⟨by subst e2;cases want<;>rfl,_,hf.same (fun _=>by rw[hv,e2]),h.2 e2⟩
   ·rename_i hx
    rw[hx] at hs
    generalize hv:a.tmps.getD d undef=v at hs
    cases hs
    exact .inr ⟨rfl,fr,hf,h⟩
   ·exact h.elim
  ·exact h.elim
theorem XT{P:nE}{mu:List Nat}{ops:nN nI}{n:Nat}{ds:List nK}(hn:∀ (j d:Nat),(ops[j]?).bind (·.dst)=some d->d<n){Q:Exit->Fr->Store->Prop}{Q':Exit->Act->nH->Prop} :
 ∀ (l:List nI),(∀ o∈l,opB n o=true)->∀ (fr:Fr) (σ:Store) (a:Act) (w:nH),XU P mu ops l Q fr σ->YL n ds σ fr a w ->
   (∀ e fr' σ' a' w',Q e fr' σ'->YL n ds σ' fr' a' w'->Ev σ w σ' w'->Q' e a' w')->∀ ro m,wpListIn (fen ro) m P ops Q' l a w:=by
 intro l
 induction l with
 | nil=>intro _ fr σ a w h hc hq ro m;exact hq _ _ _ _ _ h hc (Ev.refl _ _)
 | cons o r ih =>
   intro hB fr σ a w h hc hq ro m
   have hBo:=hB o ir
   have hdst:=Xh hBo
   simp only[XU] at h
   refine wpListIn_step fun K hK=>?_
   rcases WU h hc.fr hn with⟨hw,fr',hf',hA⟩|⟨hw,fr',hf',hA⟩
   ·rw[gZ hw]
    refine YW hA a w hc.ok (fun x hx=>hf'.operand (X7 hBo x hx)) K Q' (fun av σ' v w' hk hv hs he=>?_) (fun pv σ' w' hk hs he=>?_) ro m
    ·refine hK _ _ (ih (fun o ho=>hB o (kR _ ho)) (fr'.putO o.dst av) σ' _ w' hk ⟨?_,(hf'.ev he).put hdst hv,hs⟩ (fun e fr2 σ2 a2 w2 q c v=>hq e fr2 σ2 a2 w2 q c (he.trans v)) ro m)
     exact qG
    ·exact hq _ _ _ _ _ hk ⟨hc.defers,hf'.ev he,hs⟩ he
   ·refine vJ ?_
    refine⟨fun _ _=>trivial,hK _ _ (ih (fun o ho=>hB o (kR _ ho)) _ σ _ w hA ⟨?_,hf'.put hdst (.val undef),hc.ok⟩ hq ro m)⟩
    exact qG
def V9(k:((Exit->Fr->Store->Prop)->Fr->Store->Prop))(Q:Exit->Fr->Store->Prop):Exit->Fr->Store->Prop
 | .normal,fr,σ=>k Q fr σ
 | .exit i,fr,σ=>Q (.exit i) fr σ
 | .goto l,fr,σ=>Q (.goto l) fr σ
 | .ret,fr,σ=>Q .ret fr σ
 | .panic c,fr,σ=>Q (.panic c) fr σ
 | .outgrown,fr,σ=>Q .outgrown fr σ
def Ua(id:Nat)(Q:Exit->Fr->Store->Prop):Exit->Fr->Store->Prop
 | .normal,fr,σ=>Q .normal fr σ
 | .exit i,fr,σ=>if i=id then Q .normal fr σ else Q (.exit i) fr σ
 | .goto l,fr,σ=>Q (.goto l) fr σ
 | .ret,fr,σ=>Q .ret fr σ
 | .panic c,fr,σ=>Q (.panic c) fr σ
 | .outgrown,fr,σ=>Q .outgrown fr σ
theorem YR{n:Nat}{ops:nN nI}(h:ops.toList.all (opB n)=true):∀ (j d:Nat),(ops[j]?).bind (·.dst)=some d->d<n:=by
 intro j d hd
 simp only[lz] at hd
 obtain⟨o,ho,hd⟩:=hd
 exact Xh (List.all_eq_true.1 h o yw) d hd
def Fr.of(l:List (Nat×AV)):Fr:=fun i=>match l with
 | []=>.any
 | (j,v)::r=>if i=j then v else Fr.of r i
def Pz(fr fr':Fr):Prop:=∀ i,Wk (fr i) (fr' i)
theorem Pz.refl(fr:Fr):Pz fr fr:=fun i=>Wk.refl _
theorem Pz.of_nil(fr:Fr):Pz fr (Fr.of []):=fun i=>Wk.any _
theorem Pz.of_cons{fr:Fr}{j:Nat}{v:AV}{l:List (Nat×AV)}(h:Wk (fr j) v)(k:Pz fr (Fr.of l)):Pz fr (Fr.of ((j,v)::l)):=by
 intro i
 simp only[Fr.of]
 split
 ·rename_i e;subst e;exact h
 ·exact k i
theorem YL.wk{n:Nat}{ds:List nK}{σ σ':Store}{fr fr':Fr}{a:Act}{w:nH}(h:YL n ds σ fr a w)(hf:Pz fr fr')(hs:Sub σ' σ):YL n ds σ' fr' a w :=
 ⟨h.defers,⟨h.fr.size,fun i hi=>hf i _ _ _ ((h.fr.slot i hi).ev (hs.ev w))⟩,h.ok.sub hs⟩
theorem AWp.wk{P:nE}{n:Nat}{ds:List nK}{c:Code}{Q:Exit->Fr->Store->Prop}{fr fr':Fr}{σ σ':Store}(h:AWp P n ds c Q fr' σ')(hf:Pz fr fr')(hs:Sub σ' σ):AWp P n ds c Q fr σ :=
 fun a w hc Q' hq=>h a w (hc.wk hf hs) Q' (fun e fr2 σ2 a2 w2 q c2 v=>hq e fr2 σ2 a2 w2 q c2 ((hs.ev w).trans v))
theorem AWp.mono{P:nE}{n:Nat}{ds:List nK}{c:Code}{Q R:Exit->Fr->Store->Prop}{fr:Fr}{σ:Store}(h:AWp P n ds c Q fr σ)(k:∀ e fr σ,Q e fr σ->R e fr σ):AWp P n ds c R fr σ :=
 fun a w hc Q' hq=>h a w hc Q' (fun e fr2 σ2 a2 w2 q c2 v=>hq e fr2 σ2 a2 w2 (k _ _ _ q) c2 v)
end Go.Vx
end
