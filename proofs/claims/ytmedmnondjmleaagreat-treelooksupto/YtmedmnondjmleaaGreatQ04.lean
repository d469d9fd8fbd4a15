/- Part Q04 of the proof of treeLooksProved: the walk of the program on abstract values, and the plain law. -/
import Derived.Test.YtmedmnondjmleaaGreatQ03
import Derived.MapKept
import Derived.WideKeyRuns
import Derived.Laws.StructEq
import Derived.Maps.RangeRun
set_option linter.unusedVariables false
set_option linter.unusedSimpArgs false
section
namespace Go.Vx
open Go.RowKit
def Ue (P:Program)(t:TypeId)(x:AV)(σ:Store)(K:AV→Prop):Prop :=
 match x,P.underlying t with
 | .list _ _ es,some (.slice _)=>K (.val (.int .i64 es.length))
 | .val (.string s),some .string=>K (.val (.int .i64 s.size))
 | .val (.slice _ n _),some (.slice _)=>K (.val (.int .i64 n))
 | .val (.map none),some (.map _ _)=>K (.val (.int .i64 0))
 | .val (.map (some r)),some (.map _ _)=>match σ.get r with
   | some (.map es _)=>K (.val (.int .i64 es.length))
   | _=>False
 | _,some (.array n _)=>K (.val (.int .i64 n))
 | _,_=>False
theorem KR {P:Program}{t ty:TypeId}{x:AV}{σ:Store}{K:AV→Prop}{w:World}{v:Value}(h:Ue P t x σ K)(hσ:Zo σ w)(hx:V (live σ) w x v) :
 ∃ y av,(Builtin.len_ #[t] ty #[v]).run P w=.ok y w∧V (live σ) w av y∧K av:=by
 unfold Ue at h
 split at h
 ·rename_i e hu
  obtain ⟨a,cap,b,o,xs,rfl,_⟩:=hx.list_form
  exact ⟨_,_,by simp [Builtin.len_,run_underlying hu,goInt],.val _,h⟩
 ·rename_i hu;cases hx
  exact ⟨_,_,by simp [Builtin.len_,run_underlying hu,goInt],.val _,h⟩
 ·rename_i hu;cases hx
  exact ⟨_,_,by simp [Builtin.len_,run_underlying hu,goInt],.val _,h⟩
 ·rename_i hu;cases hx
  exact ⟨_,_,by simp [Builtin.len_,run_underlying hu,goInt],.val _,h⟩
 ·rename_i hu;cases hx
  split at h
  ·rename_i es cl hg
   obtain ⟨ms,hb,hl,_⟩:=hσ.obj _ _ (ZW hg)
   refine ⟨_,_,?_,.val _,h⟩
   simp [Builtin.len_,run_underlying hu,goInt,getObj,Sem.run,hb,hl]
  ·exact eY
 ·rename_i n e hu
  exact ⟨_,_,by simp [Builtin.len_,run_underlying (by assumption:P.underlying t=some (.array _ _)),goInt],.val _,h⟩
 ·exact eY
theorem YA.cut {L:Nat→Nat→Prop}{w:World}{s:Nat}{es:List (List AV)}{xs:List Value}(h:YA L w s es xs){l n:Nat}(hl:l+n≤es.length) :
 YA L w s ((es.drop l).take n) ((xs.drop (l * s)).take (n * s)) where
 len:=by
  have:=Nat.mul_le_mul_right s hl
  rw [List.length_take,List.length_drop,List.length_take,List.length_drop,h.len]
  rw [Nat.add_mul] at this
  rw [Nat.min_eq_left (by omega),Nat.min_eq_left (by omega)]
 sz i e he:=by
  have hi:i<n:=by have:=(List.getElem?_eq_some_iff.1 he).1;rw [List.length_take] at this;omega
  rw [List.getElem?_take_of_lt hi,List.getElem?_drop] at he
  exact h.sz _ e he
 v i e j c y he hc hy:=by
   have hi:i<n:=by have:=(List.getElem?_eq_some_iff.1 he).1;rw [List.length_take] at this;omega
   rw [List.getElem?_take_of_lt hi,List.getElem?_drop] at he
   have hj:j<s:=by have:=(List.getElem?_eq_some_iff.1 hc).1;rw [h.sz _ e he] at this;exact this
   have hk:i * s+j<n * s:=by
    calc i * s+j<i * s+s:=by omega
     _=(i+1) * s:=(Nat.succ_mul _ _).symm
     _≤n * s:=Nat.mul_le_mul_right _ hi
   rw [List.getElem?_take_of_lt hk,List.getElem?_drop,show l * s+(i * s+j)=(l+i) * s+j from by rw [Nat.add_mul];omega] at hy
   exact h.v _ e j c y he hc hy
 one x hx:=h.one x (List.mem_of_mem_drop (List.mem_of_mem_take hx))
def Wf (x:Option AV)(d:Int):Option Int :=
 match x with
 | none=>some d
 | some (.val (.int _ n))=>some n
 | some _=>none
def Vh:Option AV→Rt→Rt
 | none,.full=>.full
 | _,_=>.none
def Ru (P:Program)(t:TypeId)(x:AV)(lo hi mx:Option AV)(K:AV→Prop):Prop :=
 match x,P.underlying t with
 | .val (.string s),some .string=>match Wf lo 0,Wf hi s.size,mx with
   | some l,some h,none=>0≤l∧l≤h∧h≤s.size∧K (.val (.string (s.extract l.toNat h.toNat)))
   | _,_,_=>False
 | .list r s es,some (.slice e)=>match Wf lo 0,Wf hi es.length,mx with
   | some l,some h,none=>Zh P e=some s∧0≤l∧l≤h∧h≤es.length∧K (.list (Vh hi r) s ((es.drop l.toNat).take (h.toNat-l.toNat)))
   | some l,some h,some (.val (.int _ m))=>Zh P e=some s∧hi.isSome=true∧0≤l∧l≤h∧h=m∧m≤es.length∧K (.list .full s ((es.drop l.toNat).take (h.toNat-l.toNat)))
   | _,_,_=>False
 | _,_=>False
theorem Yn {P:Program}{k:IntKind}{i:Int}{y:Nat}{code:BoundsCode}{w:World}(h0:0≤i)(h1:i≤y):(Instr.sliceBound (.int k i) y code).run P w=.ok i.toNat w:=by
 simp [Instr.sliceBound,asIntOf,h0,h1]
theorem V5 {P:Program}{b:Bool}{len cap:Nat}{lo hi:Option Value}{l h:Int}{w:World}(hl:(lo=none∧l=0)∨∃ k,lo=some (.int k l))(hh:(hi=none∧h=len)∨∃ k,hi=some (.int k h))
 (h0:0≤l) (h1:l≤h) (h2:h≤cap):(Instr.sliceBounds b len cap lo hi none).run P w=.ok (l.toNat,h.toNat,cap) w:=by
 have e:h=(h.toNat:Int):=by omega
 rcases hl with ⟨rfl,rfl⟩ | ⟨k,rfl⟩<;>rcases hh with ⟨rfl,rfl⟩ | ⟨k',rfl⟩
 ·simp [Instr.sliceBounds]
 ·simp [Instr.sliceBounds,Yn (P:=P) (by omega:0≤h) h2]
 ·simp [Instr.sliceBounds,Yn (P:=P) h0 h1]
 ·simp [Instr.sliceBounds,Yn (P:=P) (by omega:0≤h) h2,Yn (P:=P) (y:=h.toNat) h0 (by omega)]
theorem Sl {P:Program}{b:Bool}{len cap:Nat}{lo:Option Value}{k1 k2:IntKind}{l h m:Int}{w:World}(hl:(lo=none∧l=0)∨∃ k,lo=some (.int k l))
 (h0:0≤l) (h1:l≤h) (h2:h≤m) (h3:m≤cap):(Instr.sliceBounds b len cap lo (some (.int k1 h)) (some (.int k2 m))).run P w=.ok (l.toNat,h.toNat,m.toNat) w:=by
 rcases hl with ⟨rfl,rfl⟩ | ⟨k,rfl⟩
 ·simp [Instr.sliceBounds,Yn (P:=P) (by omega:0≤m) h3,Yn (P:=P) (y:=m.toNat) (by omega:0≤h) (by omega)]
 ·simp [Instr.sliceBounds,Yn (P:=P) (by omega:0≤m) h3,Yn (P:=P) (y:=m.toNat) (by omega:0≤h) (by omega),Yn (P:=P) (y:=h.toNat) h0 (by omega)]
theorem VB {L:Nat→Nat→Prop}{w:World}{x:Option AV}{v:Option Value}{d n:Int}(h:Wf x d=some n)(hn:x=none↔v=none)(hv:∀ a u,x=some a→v=some u→V L w a u):(v=none∧n=d)∨∃ k,v=some (.int k n):=by
 cases x with
 | none=>simp [Wf] at h;exact .inl ⟨hn.1 rfl,h.symm⟩
 | some a =>
   cases v with
   | none=>simp at hn
   | some u =>
     have:=hv a u rfl rfl
     unfold Wf at h
     split at h
     ·rename_i e;cases e
     ·rename_i k n' e
      injection e with e
      subst e
      cases this
      injection h with h
      subst h
      exact .inr ⟨_,rfl⟩
     ·cases h
theorem KX {P:Program}{t:TypeId}{x:AV}{lo hi mx:Option AV}{K:AV→Prop}{L:Nat→Nat→Prop}{w:World}{xv:Value}{lov hiv mxv:Option Value}(h:Ru P t x lo hi mx K)(hx:V L w x xv)
 (l1:lo=none↔lov=none) (l2:∀ a u,lo=some a→lov=some u→V L w a u) (h1:hi=none↔hiv=none) (h2:∀ a u,hi=some a→hiv=some u→V L w a u)
 (m1:mx=none↔mxv=none) (m2:∀ a u,mx=some a→mxv=some u→V L w a u) :
 ∃ y av,(Instr.sliceAt t xv lov hiv mxv).run P w=.ok y w∧V L w av y∧K av:=by
 unfold Ru at h
 split at h
 ·rename_i s hu
  cases hx
  split at h
  ·rename_i l hh el eh
   obtain ⟨g0,g1,g2,hk⟩:=h
   have hm:mxv=none:=m1.1 rfl
   subst hm
   have:=V5 (P:=P) (b:=false) (len:=s.size) (cap:=s.size) (w:=w) (VB el l1 l2) (VB eh h1 h2) g0 g1 g2
   exact ⟨_,_,by simp [Instr.sliceAt,Instr.slice,run_underlying hu,this],.val _,hk⟩
  ·exact eY
 ·rename_i r s es e hu
  obtain ⟨a,cap,b,o,xs,rfl,hcap,hl1,hr,ha,hc,hcx⟩:=hx.list_form
  have base:∀ (l h:Int) (m cap':Nat) (r':Rt),Zh P e=some s→0≤l→l≤h→h≤es.length→h.toNat≤m→m≤cap→cap'=m-l.toNat →
   Pe r' (if m=l.toNat then a else a.map (·.add (l.toNat * s))) (h.toNat-l.toNat) cap' s →
   (Instr.sliceBounds true es.length cap lov hiv mxv).run P w=.ok (l.toNat,h.toNat,m) w →
   ∃ y,(Instr.sliceAt t (.slice a es.length cap) lov hiv mxv).run P w=.ok y w∧V L w (.list r' s ((es.drop l.toNat).take (h.toNat-l.toNat))) y:=by
   intro l h m cap' r' hs g0 g1 g2 g3 g4 hc' hr' hb
   have hlen:((es.drop l.toNat).take (h.toNat-l.toNat)).length=h.toNat-l.toNat:=by rw [List.length_take,List.length_drop];omega
   refine ⟨.slice (if m=l.toNat then a else a.map (·.add (l.toNat * s))) (h.toNat-l.toNat) (m-l.toNat),?_,?_⟩
   ·simp only [Instr.sliceAt,Sem.run_bind,run_underlying hu,Result.andThen_ok,Instr.slice,hb,Z2 hs,Sem.run_pure]
   ·have key:=dH (L:=L) (w:=w) (s:=s) (es:=(es.drop l.toNat).take (h.toNat-l.toNat)) (xs:=(xs.drop (l.toNat * s)).take ((h.toNat-l.toNat) * s)) (cap:=m-l.toNat) (b:=b) (o:=o+l.toNat * s)
     (a:=if m=l.toNat then a else a.map (·.add (l.toNat * s))) r' (by rw [hlen];omega) (by rw [hlen];omega) (by rw [hlen,← hc'];exact hr') (fun hne=>by
      have hne':es≠[]:=by rintro rfl;simp at hne
      have hlt:l.toNat<h.toNat:=by
       rcases Nat.lt_or_ge l.toNat h.toNat with q | q
       ·exact q
       ·exact absurd (by rw [show h.toNat-l.toNat=0 from by omega];simp) hne
      rw [if_neg (by omega),ha hne']
      simp [YY]) (hc.cut (by omega)) (fun k x hk=>by
      have hk1:=(List.getElem?_eq_some_iff.1 hk).1
      rw [List.length_take] at hk1
      rw [List.getElem?_take_of_lt (by omega),List.getElem?_drop] at hk
      have:=hcx _ x hk
      rw [Nat.add_assoc]
      exact this)
    rw [hlen] at key
    exact key
  split at h
  ·rename_i l hh el eh
   obtain ⟨hs,g0,g1,g2,hk⟩:=h
   have hm:mxv=none:=m1.1 rfl
   subst hm
   have hb:=V5 (P:=P) (b:=true) (len:=es.length) (cap:=cap) (w:=w) (VB el l1 l2) (VB eh h1 h2) g0 g1 (by omega)
   obtain ⟨y,r1,r2⟩:=base l hh cap (cap-l.toNat) (Vh hi r) hs g0 g1 g2 (by omega) (Nat.le_refl _) rfl (by
    unfold Vh
    split
    ·simp [Wf] at eh
     subst eh
     simp only [Pe] at hr ⊢
     omega
    ·trivial) hb
   exact ⟨y,_,r1,r2,hk⟩
  ·rename_i l hh k m el eh
   obtain ⟨hs,hsome,g0,g1,g2,g3,hk⟩:=h
   subst g2
   cases mxv with
   | none=>simp at m1
   | some mv =>
     have:=m2 _ _ rfl rfl
     cases this
     have hhi:=VB eh h1 h2
     rcases hhi with ⟨q,_⟩ | ⟨k',q⟩
     ·rw [h1.2 q] at hsome;simp at hsome
     ·subst q
      have hb:=Sl (P:=P) (b:=true) (len:=es.length) (cap:=cap) (k1:=k') (k2:=k) (w:=w) (VB el l1 l2) g0 g1 (Int.le_refl hh) (by omega)
      obtain ⟨y,r1,r2⟩:=base l hh hh.toNat (hh.toNat-l.toNat) .full hs g0 g1 g3 (Nat.le_refl _) (by omega) rfl rfl hb
      exact ⟨y,_,r1,r2,hk⟩
  ·exact eY
 ·exact eY
def amm (mx:Bool)(xs:List AV)(K:AV→Prop):Prop :=
 match xs with
 | [.val (.int k x),.val (.int k' y)]=>K (.val (.int k (if mx then max x y else min x y)))
 | _=>False
theorem KP {P:Program}{xs:List AV}{vs:Array Value}{ts:Array TypeId}{ty:TypeId}{K:AV→Prop}{L:Nat→Nat→Prop}{w:World}(h:amm true xs K)(hl:xs.length=vs.toList.length)
 (hv:∀ (i:Nat) (a:AV) (v:Value),xs[i]?=some a→vs.toList[i]?=some v→V L w a v):∃ y av,(Builtin.max_ ts ty vs).run P w=.ok y w∧V L w av y∧K av:=by
 unfold amm at h
 split at h
 ·rename_i k x k' y
  obtain ⟨v0,v1,rfl⟩:∃ v0 v1,vs=#[v0,v1]:=by
   obtain ⟨l⟩:=vs
   match l,hl with
   | [a,b],_=>exact ⟨a,b,rfl⟩
  have q0:=hv 0 _ v0 rfl rfl
  have q1:=hv 1 _ v1 rfl rfl
  cases q0;cases q1
  refine ⟨_,_,?_,.val _,h⟩
  have:(if y > x then y else x)=max x y:=by rw [Int.max_def];split<;>split<;>omega
  simp only [Builtin.max_,List.foldlM_cons,List.foldlM_nil,Builtin.max2,Sem.run_bind,Sem.run_pure,Result.andThen_ok,this,if_true]
 ·exact eY
theorem KO {P:Program}{xs:List AV}{vs:Array Value}{ts:Array TypeId}{ty:TypeId}{K:AV→Prop}{L:Nat→Nat→Prop}{w:World}(h:amm false xs K)(hl:xs.length=vs.toList.length)
 (hv:∀ (i:Nat) (a:AV) (v:Value),xs[i]?=some a→vs.toList[i]?=some v→V L w a v):∃ y av,(Builtin.min_ ts ty vs).run P w=.ok y w∧V L w av y∧K av:=by
 unfold amm at h
 split at h
 ·rename_i k x k' y
  obtain ⟨v0,v1,rfl⟩:∃ v0 v1,vs=#[v0,v1]:=by
   obtain ⟨l⟩:=vs
   match l,hl with
   | [a,b],_=>exact ⟨a,b,rfl⟩
  have q0:=hv 0 _ v0 rfl rfl
  have q1:=hv 1 _ v1 rfl rfl
  cases q0;cases q1
  refine ⟨_,_,?_,.val _,h⟩
  have:(if y<x then y else x)=min x y:=by rw [Int.min_def];split<;>split<;>omega
  simp only [Builtin.min_,List.foldlM_cons,List.foldlM_nil,Builtin.min2,Sem.run_bind,Sem.run_pure,Result.andThen_ok,this,if_false,Bool.false_eq_true]
 ·exact eY
end Go.Vx
end
section
namespace Go.Vx
open Go.RowKit
structure V3 {κ:Type} (P:Program) (kt:TypeId) (ke:κ→Value):Prop where
 inj:∀ a b,ke a=ke b→a=b
 check:∀ (e:Bool) (x:κ) (w:World),(Instr.checkKey e 10000 kt (ke x)).run P w=.ok () w
 find:∀ (x:κ) (w:World) (es:List MapEntry),(∀ e∈es,∃ y,e.key=ke y) →
  ((Instr.findKey kt (ke x) es).run P w=.ok none w∧∀ e∈es,e.key≠ke x)∨∃ j e,(Instr.findKey kt (ke x) es).run P w=.ok (some (j,e.val)) w∧es[j]?=some e∧e.key=ke x
 same:∀ x,Instr.sameBits 10000 (ke x) (ke x)=true
theorem V3.ofKey {κ:Type}{P:Program}{kt:TypeId}{d:TypeDesc}{ke:κ→Value}(hd:P.underlying kt=some d)(hk:∀ x,MapKept.IsKey d (ke x))(hi:∀ a b,ke a=ke b→a=b)(hs:∀ x,Instr.sameBits 10000 (ke x) (ke x)=true):V3 P kt ke where
 inj:=hi
 check e x w:=MapKept.run_checkKey hd (hk x) e 9999
 find x w es h:=by
  rcases MapKept.findNow_spec (hk x) es 0 (fun e he=>by obtain ⟨y,hy⟩:=h e he;rw [hy];exact hk y) with ⟨h1,h2⟩ | ⟨j,e,h1,h2,h3⟩
  ·exact .inl ⟨MapKept.run_findKey hd h1,h2⟩
  ·exact .inr ⟨j,e,MapKept.run_findKey hd (by rw [h1];simp),h2,h3⟩
 same:=hs
abbrev keI (n:Int):Value:=.int .i64 n
abbrev keS (s:ByteArray):Value:=.string s
theorem Qt {P:Program}{kt:TypeId}(h:P.underlying kt=some (.int .i64)):V3 P kt keI :=
 .ofKey h (fun x=>rfl) (fun a b e=>by injection e) (fun x=>by simp [Instr.sameBits])
theorem Qs {P:Program}{kt:TypeId}(h:P.underlying kt=some .string):V3 P kt keS :=
 .ofKey h (fun x=>trivial) (fun a b e=>by injection e) (fun x=>by simp only [Instr.sameBits];exact (MapKept.bytes_beq x x).2 rfl)
section
variable {κ:Type} [DecidableEq κ]
def ZM (ke:κ→Value)(l:List (κ×AV×Nat)):List (Value×AV×Nat):=l.map fun e=>(ke e.1,e.2)
def VL (l:List (κ×AV×Nat))(x:κ)(v:AV)(c:Nat):List (κ×AV×Nat):=if x∈l.map (·.1) then l.map (fun e=>if e.1=x then (x,v,e.2.2) else e) else l++[(x,v,c)]
def Uh (l:List (κ×AV×Nat))(x:κ)(c:Nat):Nat:=if x∈l.map (·.1) then c else c+1
def XU (l:List (κ×AV×Nat))(x:κ):Option AV:=(l.find? (fun e=>decide (e.1=x))).map (·.2.1)
end
theorem TQ {σ:Store}{w:World}(hσ:Zo σ w){b:Nat}{x y:AObj}(hx:σ.get b=some x)(hl:∀ o,x.liveAt o)(hyl:y.liveAt=x.liveAt)(o:Obj)
 (hy:∀ w':World,Ev σ w (σ.set b y) w'→w'.heap[b]?=some o→Wh (live (σ.set b y)) w' b y) :
 Zo (σ.set b y) { w with heap:=w.heap.setIfInBounds b o }∧Ev σ w (σ.set b y) { w with heap:=w.heap.setIfInBounds b o }:=by
 have hb:b<w.heap.size:=(hσ.obj b _ (ZW hx)).lt
 have hlv:=Qp hσ.nodup hx hyl
 have hne:∀ b',b'≠b→({ w with heap:=w.heap.setIfInBounds b o }:World).heap[b']?=w.heap[b']?:=fun b' h=>by simp [Array.getElem?_setIfInBounds,Ne.symm h]
 have ev:Ev σ w (σ.set b y) { w with heap:=w.heap.setIfInBounds b o }:=Ev.turn (b:=b) (fun _ _ _ h=>by rw [hlv] at h;exact h) rfl rfl rfl (by simp) hne (fun k hk=>absurd ⟨x,ZW hx,hl k⟩ hk) ⟨0,x,ZW hx,hl 0⟩ (Nat.le_refl _)
 exact ⟨hσ.set hx ev hne (hy _ ev (by simp [hb])),ev⟩
def Vk (P:Program)(t:TypeId)(m k v:AV)(σ:Store)(K:Store→Prop):Prop :=
 ∃ (κ:Type) (_:DecidableEq κ) (ke:κ→Value) (r c:Nat) (l:List (κ×AV×Nat)) (x:κ) (kt et:TypeId),P.underlying t=some (.map kt et)∧V3 P kt ke∧m=.val (.map (some r))∧k.toVal=some (ke x) ∧
   σ.get r=some (.map (ZM ke l) c)∧K (σ.set r (.map (ZM ke (VL l x v c)) (Uh l x c)))
theorem QM {κ:Type}{ke:κ→Value}{l:List (κ×AV×Nat)}(i:Nat):(ZM ke l)[i]?=(l[i]?).map fun e=>(ke e.1,e.2):=by simp [ZM]
theorem SC {κ:Type}(ke:κ→Value)(l:List (κ×AV×Nat)):(ZM ke l).map (·.1)=(l.map (·.1)).map ke:=by simp [ZM]
theorem SD {κ:Type}(ke:κ→Value)(l:List (κ×AV×Nat)):(ZM ke l).map (·.2.2)=l.map (·.2.2):=by simp [ZM]
theorem Kt {κ:Type}{ke:κ→Value}{l:List (κ×AV×Nat)}(h:((ZM ke l).map (·.1)).Nodup):(l.map (·.1)).Nodup:=by
 rw [SC] at h
 exact List.Pairwise.of_map ke (fun a b hab e=>hab (by rw [e])) h
theorem P7 {κ:Type}{P:Program}{kt:TypeId}{ke:κ→Value}(hK:V3 P kt ke){l:List κ}(h:l.Nodup):(l.map ke).Nodup:=by
 rw [List.Nodup,List.pairwise_map]
 exact List.Pairwise.imp (fun hab e=>hab (hK.inj _ _ e)) h
theorem JB {κ:Type}{ke:κ→Value}{σ:Store}{w:World}(hσ:Zo σ w){r c:Nat}{l:List (κ×AV×Nat)}(hg:σ.get r=some (.map (ZM ke l) c)) :
 ∃ ms:List MapEntry,w.heap[r]?=some (.map ms.toArray c)∧ms.length=l.length∧(∀ (i:Nat) (e:κ×AV×Nat) (m:MapEntry),l[i]?=some e→ms[i]?=some m→m.key=ke e.1∧m.born=e.2.2∧V (live σ) w e.2.1 m.val)∧(l.map (·.1)).Nodup∧(l.map (·.2.2)).Nodup∧∀ e∈l,e.2.2<c:=by
 obtain ⟨ms,h1,h2,h3,h4,h5,h6⟩:=hσ.obj r _ (ZW hg)
 refine ⟨ms,h1,by rw [h2];simp [ZM],fun i e m he hm=>h3 i (ke e.1,e.2) m (by rw [QM,he];rfl) hm,Kt h4,by rw [SD] at h5;exact h5,fun e he=>?_⟩
 have:=h6 (ke e.1,e.2) (by simp only [ZM,List.mem_map];exact ⟨e,he,rfl⟩)
 exact this
theorem Mg {κ:Type}{ke:κ→Value}{ms:List MapEntry}{l:List (κ×AV×Nat)}(hl:ms.length=l.length)(h:∀ (i:Nat) (e:κ×AV×Nat) (m:MapEntry),l[i]?=some e→ms[i]?=some m→m.key=ke e.1):∀ e∈ms,∃ y,e.key=ke y:=by
 intro e he
 obtain ⟨i,hi,rfl⟩:=List.getElem_of_mem he
 exact ⟨_,h i l[i] ms[i] (List.getElem?_eq_getElem (by omega)) (List.getElem?_eq_getElem hi)⟩
theorem Te {P:Program}{t:TypeId}{m k v:AV}{σ:Store}{K:Store→Prop}{w:World}{mv kv x:Value}(h:Vk P t m k v σ K)(hσ:Zo σ w)(hm:V (live σ) w m mv)(hk:V (live σ) w k kv)(hv:V (live σ) w v x) :
 ∃ w' σ',(Instr.mapUpdate t mv kv x).run P w=.ok () w'∧Zo σ' w'∧Ev σ w σ' w'∧K σ':=by
 obtain ⟨κ,_,ke,r,c,l,y,kt,et,ht,hK,rfl,hky,hg,hK'⟩:=h
 cases hm
 have:=Ui hky hk
 subst this
 obtain ⟨ms,h1,h2,h3,h4,h5,h6⟩:=JB hσ hg
 have keys:=Mg h2 (fun i e m a b=>(h3 i e m a b).1)
 have pre:∀ (r':Option (Nat×Value)),(Instr.findKey kt (ke y) ms).run P w=.ok r' w→(Instr.mapUpdate t (.map (some r)) (ke y) x).run P w=(match r' with
  | some (i,_)=>do let key ← Instr.keyThatStays (((ms.toArray[i]?).map (·.key)).getD (ke y)) (ke y);setObj r (.map (ms.toArray.modify i fun e=>{ e with key,val:=x }) c)
  | none=>setObj r (.map (ms.toArray.push { key:=ke y,val:=x,born:=c }) (c+1)):Sem Unit).run P w:=by
  intro r' hr
  simp only [Instr.mapUpdate,Sem.run_bind,run_underlying ht,Result.andThen_ok,MapKept.run_getObj_map h1,hK.check,hr]
  cases r' with
  | none=>rfl
  | some p=>obtain ⟨i,u⟩:=p;simp only [Sem.run_bind]
 rcases hK.find y w ms keys with ⟨hf,hno⟩ | ⟨j,e,hf,hj,hkj⟩
 ·have hnot:y ∉ l.map (·.1):=by
   intro hin
   obtain ⟨e,he,rfl⟩:=List.mem_map.1 hin
   obtain ⟨i,hi,rfl⟩:=List.getElem_of_mem he
   have hi2:i<ms.length:=by omega
   exact hno ms[i] (List.getElem_mem hi2) (h3 i l[i] ms[i] (List.getElem?_eq_getElem hi) (List.getElem?_eq_getElem hi2)).1
  have hu:VL l y v c=l++[(y,v,c)]:=by unfold VL;rw [if_neg hnot]
  have hc:Uh l y c=c+1:=by unfold Uh;rw [if_neg hnot]
  rw [hu,hc] at hK'
  obtain ⟨o1,o2⟩:=TQ (y:=.map (ZM ke (l++[(y,v,c)])) (c+1)) hσ hg (fun _=>trivial) rfl (.map (ms.toArray.push { key:=ke y,val:=x,born:=c }) (c+1)) (fun w' ev hb=>by
   refine ⟨ms++[{ key:=ke y,val:=x,born:=c }],by rw [hb];congr 1;simp,by simp [ZM,h2],fun i e m he hmi=>?_,?_,?_,?_⟩
   ·rw [QM] at he
    by_cases hi:i<l.length
    ·rw [List.getElem?_append_left hi] at he
     rw [List.getElem?_append_left (by omega)] at hmi
     obtain ⟨e0,he0,rfl⟩:=Option.map_eq_some_iff.1 he
     obtain ⟨a1,a2,a3⟩:=h3 i e0 m he0 hmi
     exact ⟨a1,a2,a3.ev ev⟩
    ·rw [List.getElem?_append_right (by omega)] at he
     rw [List.getElem?_append_right (by omega)] at hmi
     have:i-l.length=0:=by
      by_cases h0:i-l.length=0
      ·exact h0
      ·obtain ⟨q,hq⟩:=Nat.exists_eq_succ_of_ne_zero h0
       rw [hq] at he;simp at he
     rw [this] at he
     rw [show i-ms.length=0 by omega] at hmi
     simp at he hmi
     subst he;subst hmi
     exact ⟨rfl,rfl,hv.ev ev⟩
   ·rw [SC,List.map_append,List.map_append,List.nodup_append]
    refine ⟨P7 hK h4,by simp,fun a ha b hb2=>?_⟩
    obtain ⟨a',ha',rfl⟩:=List.mem_map.1 ha
    simp at hb2
    subst hb2
    intro e
    exact hnot (hK.inj _ _ e ▸ ha')
   ·rw [SD,List.map_append,List.nodup_append]
    refine ⟨h5,by simp,fun a ha b hb2=>?_⟩
    obtain ⟨a',ha',rfl⟩:=List.mem_map.1 ha
    simp at hb2
    subst hb2
    have:=h6 a' ha'
    omega
   ·intro e he
    simp only [ZM,List.map_append,List.mem_append,List.mem_map] at he
    rcases he with ⟨e0,he0,rfl⟩ | ⟨e0,he0,rfl⟩
    ·have:=h6 e0 he0;simp only;omega
    ·simp at he0;subst he0;simp)
  exact ⟨_,_,by rw [pre _ hf];exact MapKept.run_setObj_map _ h1,o1,o2,hK'⟩
 ·have hjl:j<ms.length:=(List.getElem?_eq_some_iff.1 hj).1
  have hjl2:j<l.length:=by omega
  have hej:=h3 j l[j] e (List.getElem?_eq_getElem hjl2) hj
  have hyj:l[j].1=y:=hK.inj _ _ (by rw [← hej.1,hkj])
  have hin:y∈l.map (·.1):=List.mem_map.2 ⟨l[j],List.getElem_mem hjl2,hyj⟩
  have hu:VL l y v c=l.map (fun e=>if e.1=y then (y,v,e.2.2) else e):=by unfold VL;rw [if_pos hin]
  have hc:Uh l y c=c:=by unfold Uh;rw [if_pos hin]
  rw [hu,hc] at hK'
  have hmj:ms.toArray[j]?=some e:=by simpa using hj
  have hkt:∀ w,(Instr.keyThatStays (((ms.toArray[j]?).map (·.key)).getD (ke y)) (ke y)).run P w=.ok (ke y) w:=by
   intro w;rw [hmj];simp only [Option.map_some,Option.getD_some,hkj];unfold Instr.keyThatStays;rw [hK.same];rfl
  have uniq:∀ i (hi:i<l.length),l[i].1=y→i=j:=by
   intro i hi he
   have:=List.pairwise_iff_getElem.1 h4
   rcases Nat.lt_trichotomy i j with q | q | q
   ·exact ((this i j (by rw [List.length_map];exact hi) (by rw [List.length_map];exact hjl2) q) (by rw [List.getElem_map,List.getElem_map,he,hyj])).elim
   ·exact q
   ·exact ((this j i (by rw [List.length_map];exact hjl2) (by rw [List.length_map];exact hi) q) (by rw [List.getElem_map,List.getElem_map,he,hyj])).elim
  obtain ⟨o1,o2⟩:=TQ (y:=.map (ZM ke (l.map (fun e=>if e.1=y then (y,v,e.2.2) else e))) c) hσ hg (fun _=>trivial) rfl (.map (ms.toArray.modify j fun e=>{ e with key:=ke y,val:=x }) c) (fun w' ev hb=>by
   refine ⟨(ms.toArray.modify j fun e=>{ e with key:=ke y,val:=x }).toList,by rw [hb],by simp [ZM,h2],fun i e0 m he hmi=>?_,?_,?_,?_⟩
   ·rw [QM,List.getElem?_map] at he
    have hmi':(ms.toArray.modify j fun e=>{ e with key:=ke y,val:=x })[i]?=some m:=by simpa using hmi
    rw [Array.getElem?_modify] at hmi'
    have hil:i<l.length:=by
     by_cases hi:i<l.length
     ·exact hi
     ·rw [List.getElem?_eq_none (by omega)] at he;simp at he
    rw [List.getElem?_eq_getElem hil] at he
    simp only [Option.map_some,Option.some.injEq] at he
    have hml:i<ms.length:=by omega
    have hbase:=h3 i l[i] ms[i] (List.getElem?_eq_getElem hil) (List.getElem?_eq_getElem hml)
    by_cases hij:j=i
    ·subst hij
     simp only [if_true,List.getElem?_toArray,List.getElem?_eq_getElem hml,Option.map_some,Option.some.injEq] at hmi'
     rw [if_pos hyj] at he
     subst he;subst hmi'
     exact ⟨rfl,hbase.2.1,hv.ev ev⟩
    ·rw [if_neg hij] at hmi'
     simp only [List.getElem?_toArray,List.getElem?_eq_getElem hml,Option.some.injEq] at hmi'
     rw [if_neg (fun e=>hij (uniq i hil e).symm)] at he
     subst he;subst hmi'
     exact ⟨hbase.1,hbase.2.1,hbase.2.2.ev ev⟩
   ·have e1:(l.map (fun e=>if e.1=y then (y,v,e.2.2) else e)).map (·.1)=l.map (·.1):=by
     rw [List.map_map]
     refine List.map_congr_left (fun a _=>?_)
     simp only [Function.comp]
     split
     ·rename_i q;exact q.symm
     ·rfl
    rw [SC,e1]
    exact P7 hK h4
   ·have e1:(l.map (fun e=>if e.1=y then (y,v,e.2.2) else e)).map (·.2.2)=l.map (·.2.2):=by
     rw [List.map_map]
     refine List.map_congr_left (fun a _=>?_)
     simp only [Function.comp]
     split<;>rfl
    rw [SD,e1]
    exact h5
   ·intro e0 he
    simp only [ZM,List.map_map,List.mem_map,Function.comp] at he
    obtain ⟨e1,he1,rfl⟩:=he
    have:=h6 e1 he1
    split<;>exact this)
  refine ⟨_,_,?_,o1,o2,hK'⟩
  rw [pre _ hf]
  simp only [Sem.run_bind,hkt,Result.andThen_ok]
  exact MapKept.run_setObj_map _ h1
def lkV (z:Value)(o:Option AV)(commaOk:Bool):AV:=if commaOk then .tup [o.getD (cW z),.val (.bool o.isSome)] else o.getD (cW z)
def M7 (P:Program)(t:TypeId)(m k:AV)(ok:Bool)(σ:Store)(K:AV→Prop):Prop :=
 ∃ (κ:Type) (_:DecidableEq κ) (ke:κ→Value) (r c:Nat) (l:List (κ×AV×Nat)) (x:κ) (kt et:TypeId) (z:Value),P.underlying t=some (.map kt et)∧V3 P kt ke∧m=.val (.map (some r))∧k.toVal=some (ke x) ∧
   σ.get r=some (.map (ZM ke l) c)∧Zl P et=some z∧K (lkV z (XU l x) ok)
theorem M6 {P:Program}{t:TypeId}{m k:AV}{ok:Bool}{σ:Store}{K:AV→Prop}{w:World}{mv kv:Value}(h:M7 P t m k ok σ K)(hσ:Zo σ w)(hm:V (live σ) w m mv)(hk:V (live σ) w k kv) :
 ∃ v av,(Instr.lookup t mv kv ok).run P w=.ok v w∧V (live σ) w av v∧K av:=by
 obtain ⟨κ,_,ke,r,c,l,y,kt,et,z,ht,hK,rfl,hky,hg,hz,hK'⟩:=h
 cases hm
 have:=Ui hky hk
 subst this
 obtain ⟨ms,h1,h2,h3,h4,h5,h6⟩:=JB hσ hg
 have keys:=Mg h2 (fun i e m a b=>(h3 i e m a b).1)
 have pair:∀ (a:AV) (u:Value) (b:Bool),V (live σ) w a u→V (live σ) w (if ok then .tup [a,.val (.bool b)] else a) (if ok then .tuple #[u,.bool b] else u):=by
  intro a u b ha
  cases ok with
  | false=>exact ha
  | true =>
    refine V.tup [a,.val (.bool b)] [u,.bool b] rfl (fun i c v hc hv=>?_)
    match i with
    | 0=>simp at hc hv;subst hc;subst hv;exact ha
    | 1=>simp at hc hv;subst hc;subst hv;exact .val _
    | i+2=>simp at hc
 have hemp:ms.toArray.toList=ms:=rfl
 rcases hK.find y w ms keys with ⟨hf,hno⟩ | ⟨j,e,hf,hj,hkj⟩
 ·have hnone:XU l y=none:=by
   unfold XU
   rw [List.find?_eq_none.2 (fun e he=>?_)]
   ·rfl
   ·obtain ⟨i,hi,rfl⟩:=List.getElem_of_mem he
    have hi2:i<ms.length:=by omega
    simp only [decide_eq_true_eq]
    intro e
    exact hno ms[i] (List.getElem_mem hi2) (by rw [(h3 i l[i] ms[i] (List.getElem?_eq_getElem hi) (List.getElem?_eq_getElem hi2)).1,e])
  rw [hnone] at hK'
  refine ⟨_,_,?_,pair _ _ false (dD (live σ) w z),hK'⟩
  simp only [Instr.lookup,Sem.run_bind,run_underlying ht,Result.andThen_ok,MapKept.run_getObj_map h1,hK.check,hf,WL hz,Sem.run_pure]
 ·have hjl:j<ms.length:=(List.getElem?_eq_some_iff.1 hj).1
  have hjl2:j<l.length:=by omega
  have hej:=h3 j l[j] e (List.getElem?_eq_getElem hjl2) hj
  have hyj:l[j].1=y:=hK.inj _ _ (by rw [← hej.1,hkj])
  have hsome:XU l y=some l[j].2.1:=by
   unfold XU
   have hfnd:l.find? (fun e=>decide (e.1=y))=some l[j]:=by
    rw [List.find?_eq_some_iff_getElem]
    refine ⟨by simpa using hyj,j,hjl2,rfl,fun i hi=>?_⟩
    have:=List.pairwise_iff_getElem.1 h4 i j (by simp;omega) (by simpa using hjl2) hi
    simp only [Bool.not_eq_true',decide_eq_false_iff_not]
    intro e
    exact this (by simp [e,hyj])
   rw [hfnd];rfl
  rw [hsome] at hK'
  refine ⟨_,_,?_,pair _ _ true hej.2.2,hK'⟩
  simp only [Instr.lookup,Sem.run_bind,run_underlying ht,Result.andThen_ok,MapKept.run_getObj_map h1,hK.check,hf,Sem.run_pure]
def KL (P:Program)(t:TypeId)(m:AV)(σ:Store)(K:ZO→Store→Prop):Prop :=
 ∃ (r c:Nat) (es:List (Value×AV×Nat)) (kt et:TypeId),P.underlying t=some (.map kt et)∧m=.val (.map (some r))∧σ.get r=some (.map es c)∧∀ b,Zx σ b→K (.ret (.val (.pointer (some ⟨b,0,none⟩)))) ((b,.iter (some r) c [] c)::σ)
theorem NB {P:Program}{t:TypeId}{m:AV}{σ:Store}{K:ZO→Store→Prop}{w:World}{mv:Value}(h:KL P t m σ K)(hσ:Zo σ w)(hm:V (live σ) w m mv) :
 ∃ v w' av σ',(Instr.range t mv).run P w=.ok v w'∧V (live σ') w' av v∧Zo σ' w'∧Ev σ w σ' w'∧K (.ret av) σ':=by
 obtain ⟨r,c,es,kt,et,ht,rfl,hg,hK⟩:=h
 cases hm
 obtain ⟨ms,h1,_⟩:=hσ.obj r _ (ZW hg)
 refine ⟨_,_,_,_,run_range_map w t kt et r ms.toArray c ht h1,.val _,hσ.alloc (.mapIter (some r) c #[] c) (.iter (some r) c [] c) (Xp w _),Ev.alloc hσ _ _,hK _ (hσ.fresh (Nat.le_refl _))⟩
def Dm (it:AV)(σ:Store)(K:ZO→Store→Prop):Prop :=
 ∃ (b r c:Nat) (es:List (Value×AV×Nat)) (seen:List Nat),it=.val (.pointer (some ⟨b,0,none⟩))∧σ.get b=some (.iter (some r) c seen c)∧σ.get r=some (.map es c) ∧
   ((∀ e∈es,e.2.2∈seen)→K (.ret (.tup [.val (.bool false)])) σ)∧(∀ e∈es,e.2.2 ∉ seen→K (.ret (.tup [.val (.bool true),cW e.1,e.2.1])) (σ.set b (.iter (some r) c (seen++[e.2.2]) c)))
theorem M4 {P:Program}{it:AV}{σ:Store}{K:ZO→Store→Prop}{w:World}{iv:Value}{ty:TypeId}(h:Dm it σ K)(hσ:Zo σ w)(hi:V (live σ) w it iv) :
 ∃ v w' av σ',(Instr.next iv false ty).run P w=.ok v w'∧V (live σ') w' av v∧Zo σ' w'∧Ev σ w σ' w'∧K (.ret av) σ':=by
 obtain ⟨b,r,c,es,seen,rfl,hb,hg,h1,h2⟩:=h
 cases hi
 have hbw:w.heap[b]?=some (.mapIter (some r) c seen.toArray c):=hσ.obj b _ (ZW hb)
 obtain ⟨ms,m1,m2,m3,m4,m5,m6⟩:=hσ.obj r _ (ZW hg)
 have born:∀ (i:Nat) (hi:i<ms.length),∃ e∈es,ms[i].born=e.2.2∧ms[i].key=e.1∧V (live σ) w e.2.1 ms[i].val:=by
  intro i hi
  have hi2:i<es.length:=by omega
  have:=m3 i es[i] ms[i] (List.getElem?_eq_getElem hi2) (List.getElem?_eq_getElem hi)
  exact ⟨es[i],List.getElem_mem hi2,this.2.1,this.1,this.2.2⟩
 rcases run_next_at (P:=P) w ty b r c c seen.toArray ms.toArray c hbw m1 (fun x hx=>by
  obtain ⟨i,hi,rfl⟩:=List.getElem_of_mem (show x∈ms from hx)
  obtain ⟨e,he,h,_⟩:=born i hi
  rw [h];exact m6 e he) (Nat.le_refl _) with ⟨e0,hr⟩ | ⟨e,he,w1,hw1,hr⟩
 ·refine ⟨_,w,_,σ,hr,V.tup [.val (.bool false)] [.bool false] rfl (fun i c v hc hv=>?_),hσ,Ev.refl _ _,h1 (fun e he=>?_)⟩
  ·match i with
   | 0=>simp at hc hv;subst hc;subst hv;exact .val _
   | i+1=>simp at hc
  ·obtain ⟨i,hi,rfl⟩:=List.getElem_of_mem he
   have hi2:i<ms.length:=by omega
   have hq:=m3 i es[i] ms[i] (List.getElem?_eq_getElem hi) (List.getElem?_eq_getElem hi2)
   have hemp:leftOf ms.toArray seen.toArray=#[]:=Array.eq_empty_of_size_eq_zero e0
   unfold leftOf at hemp
   rw [Array.filter_eq_empty_iff] at hemp
   have:=hemp ms[i] (by simp)
   simp at this
   rw [← hq.2.1]
   exact this
 ·unfold leftOf at he
  simp only [Array.toList_filter,List.mem_filter,Bool.not_eq_true',Array.contains_eq_mem,decide_eq_false_iff_not,List.mem_toArray] at he
  obtain ⟨he1,he2⟩:=he
  obtain ⟨i,hi,rfl⟩:=List.getElem_of_mem he1
  obtain ⟨e,hee,hb1,hb2,hb3⟩:=born i hi
  have hσ1:Zo σ w1:=hw1.elim (fun e=>e ▸ hσ) (fun e=>e ▸ hσ.drew)
  have ev1:Ev σ w σ w1:=hw1.elim (fun e=>e ▸ Ev.refl _ _) (fun e=>e ▸ Ev.drew _ _)
  have hk:=h2 e hee (by rw [← hb1];exact he2)
  obtain ⟨o1,o2⟩:=TQ (y:=.iter (some r) c (seen++[e.2.2]) c) hσ1 hb (fun _=>trivial) rfl (.mapIter (some r) c (seen.toArray.push ms[i].born) c) (fun w' ev hb=>by
   show w'.heap[b]?=_;rw [hb,hb1];simp)
  refine ⟨_,_,_,_,hr,?_,o1,ev1.trans o2,hk⟩
  refine V.tup [_,_,_] [_,_,_] rfl (fun k c v hc hv=>?_)
  match k with
  | 0=>simp at hc hv;subst hc;subst hv;exact .val _
  | 1=>simp at hc hv;subst hc;subst hv;rw [hb2];exact dD _ _ _
  | 2=>simp at hc hv;subst hc;subst hv;exact hb3.ev (ev1.trans o2)
  | k+3=>simp at hc
def KW (it:AV)(σ:Store)(K:AV→Prop):Prop :=
 ∃ (b r c:Nat) (es:List (Value×AV×Nat)) (seen:List Nat) (e:Value×AV×Nat),it=.val (.pointer (some ⟨b,0,none⟩))∧σ.get b=some (.iter (some r) c (seen++[e.2.2]) c)∧σ.get r=some (.map es c)∧e∈es∧K (.tup [cW e.1,e.2.1])
theorem NI {P:Program}{it:AV}{σ:Store}{K:AV→Prop}{w:World}{iv:Value}(h:KW it σ K)(hσ:Zo σ w)(hi:V (live σ) w it iv) :
 ∃ v av,(Instr.entry iv).run P w=.ok v w∧V (live σ) w av v∧K av:=by
 obtain ⟨b,r,c,es,seen,e,rfl,hb,hg,hee,hK⟩:=h
 cases hi
 have hbw:w.heap[b]?=some (.mapIter (some r) c (seen++[e.2.2]).toArray c):=hσ.obj b _ (ZW hb)
 obtain ⟨ms,m1,m2,m3,m4,m5,m6⟩:=hσ.obj r _ (ZW hg)
 obtain ⟨i,hi,rfl⟩:=List.getElem_of_mem hee
 have hi2:i<ms.length:=by omega
 have hq:=m3 i es[i] ms[i] (List.getElem?_eq_getElem hi) (List.getElem?_eq_getElem hi2)
 have hnd:(ms.map (·.born)).Nodup:=by
  have:ms.map (·.born)=es.map (·.2.2):=by
   apply List.ext_getElem?
   intro j
   rw [List.getElem?_map,List.getElem?_map]
   by_cases hj:j<ms.length
   ·have hj2:j<es.length:=by omega
    rw [List.getElem?_eq_getElem hj,List.getElem?_eq_getElem hj2]
    simp [(m3 j es[j] ms[j] (List.getElem?_eq_getElem hj2) (List.getElem?_eq_getElem hj)).2.1]
   ·rw [List.getElem?_eq_none (by omega),List.getElem?_eq_none (by omega)];rfl
  rw [this];exact m5
 have hr:=run_entry_at (P:=P) w b r c seen.toArray ms.toArray c ms[i] (by rw [hbw,hq.2.1];simp) m1 (List.getElem_mem hi2) hnd
 refine ⟨_,_,hr,?_,hK⟩
 refine V.tup [_,_] [_,_] rfl (fun k c v hc hv=>?_)
 match k with
 | 0=>simp at hc hv;subst hc;subst hv;rw [hq.1];exact dD _ _ _
 | 1=>simp at hc hv;subst hc;subst hv;exact hq.2.2
 | k+2=>simp at hc
def T8 (σ:Store)(K:ZO→Store→Prop):Prop:=∀ b,Zx σ b→K (.ret (.val (.map (some b)))) ((b,.map [] 0)::σ)
theorem Q4 {P:Program}{t:TypeId}{σ:Store}{K:ZO→Store→Prop}{w:World}(h:T8 σ K)(hσ:Zo σ w) :
 ∃ v w' av σ',(Instr.makeMap t none).run P w=.ok v w'∧V (live σ') w' av v∧Zo σ' w'∧Ev σ w σ' w'∧K (.ret av) σ':=by
 refine ⟨.map (some w.heap.size),w.alloc (.map #[] 0),_,_,rfl,.val _,hσ.alloc (.map #[] 0) (.map [] 0) ⟨[],Xp w _,rfl,by simp,by simp,by simp,by simp⟩,Ev.alloc hσ _ _,h _ (hσ.fresh (Nat.le_refl _))⟩
end Go.Vx
end
