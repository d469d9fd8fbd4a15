/- A part of the proof of clausalSpinesProved. -/
import Derived.Test.YtllgjklcpieanaaGreatDoorR01
import Derived.Laws.Strings
import Derived.Laws.StructEq
import Derived.ChangeKeysEq
import Derived.Laws.Tables
set_option linter.unusedVariables false
set_option linter.unusedSimpArgs false
section
namespace Go.Vx
open Go.RowKit
def Uc(d:nM TypeDesc):Bool:=match d with|some (.func _ _ _)=>true|_=>false
def Z7(d:nM TypeDesc):Bool:=match d with|some (.interface _)=>true|_=>false
def Sm:nM TypeDesc->nM Nat
 | some (.int _)=>some 0
 | some .bool=>some 1
 | some .string=>some 2
 | _=>none
def GX(P:nE):Nat->List Field->nM (List Nat)
 | _,[]=>some []
 | o,f::r=>if f.offset=o/\f.name ≠ "_" then match Sm (P.underlying f.type),GX P (o+1) r with
   | some k,some l=>some (k::l)
   | _,_=>none
   else none
def bD(P:nE)(n:Nat)(e:nF):nM (List Nat):=if P.cellsOf e=1/\(P.info? e).isSome=true then(Sm (P.underlying e)).map (List.replicate n) else none
def eqT(P:nE)(T:nF):nM (List Nat):=match P.underlying T with
 | some (.struct fs)=>if P.stoodInHeld T=false/\P.eqGuardType P.depth T=false then GX P 0 fs.toList else none
 | some (.array n e)=>if P.eqGuardType P.depth T=false then bD P n e else none
 | _=>none
def Ui:Nat->AV->AV->nM Bool
 | 0,.val (.int k x),.val (.int k' y)=>if k=k' then some (decide (x=y)) else none
 | 1,.val (.bool x),.val (.bool y)=>some (decide (x=y))
 | 2,.val (.string x),.val (.string y)=>some (decide (x=y))
 | _,_,_=>none
def UD:List Nat->List AV->List AV->nM Bool
 | [],[],[]=>some true
 | k::l,a::r,b::s=>match Ui k a b,UD l r s with
   | some x,some y=>some (x&&y)
   | _,_=>none
 | _,_,_=>none
def Pq(o:nM (List Nat))(xs ys:List AV):nM Bool:=match o with|some l=>UD l xs ys|none=>none
def XQ(P:nE)(op:BinOp)(T:nF)(x y:AV)(yc:Bool):nM AV :=
 match op,x,y with
 | .add,.val (.int k a),.val (.int k' b)=>if k=k' then some (.val (.int k (k.wrap (a+b)))) else none
 | .sub,.val (.int k a),.val (.int k' b)=>if k=k' then some (.val (.int k (k.wrap (a-b)))) else none
 | .mul,.val (.int k a),.val (.int k' b)=>if k=k' then some (.val (.int k (k.wrap (a * b)))) else none
 | .quo,.val (.int k a),.val (.int k' b)=>if k=k'/\b≠0 then some (.val (.int k (k.wrap (a.tdiv b)))) else none
 | .rem,.val (.int k a),.val (.int k' b)=>if k=k'/\b≠0 then some (.val (.int k (a.tmod b))) else none
 | .and,.val (.int k a),.val (.int k' b)=>if k=k' then some (.val (.int k (k.wrap (BitVec.ofInt k.bits a &&& BitVec.ofInt k.bits b).toNat))) else none
 | .xor,.val (.int k a),.val (.int k' b)=>if k=k' then some (.val (.int k (k.wrap (BitVec.ofInt k.bits a ^^^ BitVec.ofInt k.bits b).toNat))) else none
 | .or,.val (.int k a),.val (.int k' b)=>if k=k' then some (.val (.int k (k.wrap (BitVec.ofInt k.bits a ||| BitVec.ofInt k.bits b).toNat))) else none
 | .shl,.val (.int k a),.val (.int _ b)=>if 0<=b then some (.val (.int k (k.wrap (a * 2 ^ min b.toNat k.bits)))) else none
 | .shr,.val (.int k a),.val (.int _ b)=>if 0<=b then some (.val (.int k (a.fdiv (2 ^ min b.toNat k.bits)))) else none
 | .lss,.val (.int k a),.val (.int k' b)=>if k=k' then some (.val (.bool (decide (a<b)))) else none
 | .leq,.val (.int k a),.val (.int k' b)=>if k=k' then some (.val (.bool (decide (a<=b)))) else none
 | .gtr,.val (.int k a),.val (.int k' b)=>if k=k' then some (.val (.bool (decide (b<a)))) else none
 | .geq,.val (.int k a),.val (.int k' b)=>if k=k' then some (.val (.bool (decide (b<=a)))) else none
 | .eql,.val (.int k a),.val (.int k' b)=>if k=k' then some (.val (.bool (decide (a=b)))) else none
 | .neq,.val (.int k a),.val (.int k' b)=>if k=k' then some (.val (.bool (!decide (a=b)))) else none
 | .add,.val (.string a),.val (.string b)=>if a.size+b.size<=lim then some (.val (.string (a++b))) else none
 | .eql,.val (.string a),.val (.string b)=>some (.val (.bool (decide (a=b))))
 | .neq,.val (.string a),.val (.string b)=>some (.val (.bool (!decide (a=b))))
 | .lss,.val (.string a),.val (.string b)=>some (.val (.bool (Op.bytesLess a.data.toList b.data.toList)))
 | .gtr,.val (.string a),.val (.string b)=>some (.val (.bool (!(Op.bytesLess a.data.toList b.data.toList || decide (a=b)))))
 | .eql,.val (.bool a),.val (.bool b)=>if P.underlying T matches some .bool then some (.val (.bool (decide (a=b)))) else none
 | .neq,.val (.bool a),.val (.bool b)=>if P.underlying T matches some .bool then some (.val (.bool (!decide (a=b)))) else none
 | .eql,.val .nilIface,.val .nilIface=>if yc&&Z7 (P.underlying T) then some (.val (.bool true)) else none
 | .neq,.val .nilIface,.val .nilIface=>if yc&&Z7 (P.underlying T) then some (.val (.bool false)) else none
 | .eql,.val (.iface _ _),.val .nilIface=>if Z7 (P.underlying T) then some (.val (.bool false)) else none
 | .neq,.val (.iface _ _),.val .nilIface=>if Z7 (P.underlying T) then some (.val (.bool true)) else none
 | .eql,.agg xs,.agg ys=>(Pq (eqT P T) xs ys).map fun b=>.val (.bool b)
 | .neq,.agg xs,.agg ys=>(Pq (eqT P T) xs ys).map fun b=>.val (.bool (!b))
 | .neq,.val .nilFunc,.val .nilFunc=>if Uc (P.underlying T) then some (.val (.bool false)) else none
 | .neq,.val (.func _ _ _),.val .nilFunc=>if Uc (P.underlying T) then some (.val (.bool true)) else none
 | _,_,_=>none
theorem VX(a b:ByteArray):(a.toList == b.toList)=decide (a=b):=by
 rw[Bool.eq_iff_iff]
 simp only[beq_iff_eq,kD,ByteArray.toList_eq]
 constructor
 ·intro h
  apply ByteArray.ext
  exact Array.toList_inj.1 h
 ·rintro rfl;rfl
theorem UK{P:nE}{T:nF}{w:nH}{a b:Bool}(hu:P.underlying T=some .bool):(Op.equal T (.bool a) (.bool b)).run P w=.ok (decide (a=b)) w:=by
 unfold Op.equal Op.maxDepth
 rw[show(10000:Nat)=9999+1 from rfl,Op.equalIn]
 simp only[jZ,kB hu,kC]
 cases a<;>cases b<;>rfl
theorem Tz{P:nE}{T:nF}{w:nH}{ms:nN (String×nF)}(hu:P.underlying T=some (.interface ms)):(Op.equal T .nilIface .nilIface).run P w=.ok true w:=by
 exact pL
theorem Uq{P:nE}{T:nF}{w:nH}{ms:nN (String×nF)}{t:nF}{v:nG}(hu:P.underlying T=some (.interface ms)):(Op.equal T (.iface t v) .nilIface).run P w=.ok false w:=by
 exact pL
theorem RN{P:nE}{op:BinOp}{T:nF}{x y:nJ}{w:nH}(h:(y matches .const _)=true):(eqGuard op T x y .nilIface .nilIface).run P w=.ok () w:=by
 cases y with
 | const v=>unfold eqGuard;simp
 | _=>simp at h
theorem R7{P:nE}{T:nF}(h:Z7 (P.underlying T)=true):∃ ms,P.underlying T=some (.interface ms):=by
 unfold Z7 at h
 split at h
 ·exact⟨_,‹_›⟩
 ·cases h
theorem Em{P:nE}{T:nF}(h:Uc (P.underlying T)=true):∃ a b c,P.underlying T=some (.func a b c):=by
 unfold Uc at h
 split at h
 ·exact⟨_,_,_,‹_›⟩
 ·cases h
theorem Qp{P:nE}{T:nF}{w:nH}{a:nN nF}{b:nN nF}{c:Bool}(hu:P.underlying T=some (.func a b c)):(Op.equal T .nilFunc .nilFunc).run P w=.ok true w:=by
 exact pL
theorem Qo{P:nE}{T:nF}{w:nH}{a:nN nF}{b:nN nF}{c:Bool}{f:Fn}{x y:nN nG}(hu:P.underlying T=some (.func a b c)):(Op.equal T (.func f x y) .nilFunc).run P w=.ok false w:=by
 exact pL
theorem Wu{P:nE}{e:nF}{k:Nat}{w:nH}(he:Sm (P.underlying e)=some k){xs:nN nG}{off:Nat}{v:nG}(hx:xs[off]?=some v):(part e xs off).run P w=.ok v w:=by
 have:(isAgg e).run P w=.ok false w:=by
  unfold Sm at he
  split at he
  ·rename_i h;simp[isAgg,jZ,kB h]
  ·rename_i h;simp[isAgg,jZ,kB h]
  ·rename_i h;simp[isAgg,jZ,kB h]
  ·cases he
 simp[part,this,hx]
theorem Qq{P:nE}{T:nF}{k d:Nat}{w:nH}{L:Nat->Nat->Prop}{x y:AV}{a b:nG}{r:Bool}(hk:Sm (P.underlying T)=some k)(h:Ui k x y=some r)(hx:V L w x a)(hy:V L w y b):(Op.equalIn (d+1) T a b).run P w=.ok r w:=by
 unfold Ui at h
 split at h
 ·cases hx;cases hy
  split at h
  ·rename_i e;subst e;injection h with h;subst h
   unfold Sm at hk
   split at hk
   ·rename_i hu;rw[run_equalIn_int w d T _ _ _ _ hu];congr 1
   ·cases hk
   ·cases hk
   ·cases hk
  ·cases h
 ·cases hx;cases hy;injection h with h;subst h
  unfold Sm at hk
  split at hk
  ·cases hk
  ·rename_i hu;rw[run_equalIn_bool' w d T _ _ hu];congr 1
  ·cases hk
  ·cases hk
 ·cases hx;cases hy;injection h with h;subst h
  unfold Sm at hk
  split at hk
  ·cases hk
  ·cases hk
  ·rename_i hu;rw[run_equalIn_string w d T _ _ hu,VX]
  ·cases hk
 ·cases h
theorem J5{P:nE}{d:Nat}{w:nH}{L:Nat->Nat->Prop}{vs us:nN nG}:∀ (fs:List Field) (o:Nat) (tags:List Nat) (xs ys:List AV) (r:Bool),GX P o fs=some tags->UD tags xs ys=some r ->
 (∀ (i:Nat) (c:AV),xs[i]?=some c->∃ v,vs[o+i]?=some v/\V L w c v)->(∀ (i:Nat) (c:AV),ys[i]?=some c->∃ v,us[o+i]?=some v/\V L w c v) ->
 (Op.eqFields (d+1) vs us fs).run P w=.ok r w
 | [],o,tags,xs,ys,r,ht,h,_,_=>by
   simp only[GX,jq] at ht;subst ht
   exact sQ
 | f::fs,o,tags,xs,ys,r,ht,h,hx,hy=>by
   simp only[GX] at ht
   split at ht
   ·rename_i hf
    split at ht
    ·rename_i k l hk hl
     injection ht with ht;subst ht
     match xs,ys,h,hx,hy with
     | a::xr,b::yr,h,hx,hy =>
       simp only[UD] at h
       split at h
       ·rename_i x y hc hr
        injection h with h;subst h
        obtain⟨va,ha,hva⟩:=hx 0 a rfl
        obtain⟨vb,hb,hvb⟩:=hy 0 b rfl
        have ih:=J5 (d:=d) fs (o+1) l xr yr y hl hr (fun i c hi=>by have:=hx (i+1) c xM;rwa [show o+1+i=o+(i+1) by omega]) (fun i c hi=>by have:=hy (i+1) c xM;rwa [show o+1+i=o+(i+1) by omega])
        rw[Op.eqFields,gZ hf.2]
        simp only[jZ,hf.1]
        exact qU
       ·cases h
     | [],_,h,_,_=>simp[UD] at h
     | _::_,[],h,_,_=>simp[UD] at h
    ·cases ht
   ·cases ht
theorem J4{P:nE}{d k:Nat}{w:nH}{L:Nat->Nat->Prop}{vs us:nN nG}{e:nF}(hk:Sm (P.underlying e)=some k):∀ (m o:Nat) (xs ys:List AV) (r:Bool),UD (List.replicate m k) xs ys=some r ->
 (∀ (i:Nat) (c:AV),xs[i]?=some c->∃ v,vs[o+i]?=some v/\V L w c v)->(∀ (i:Nat) (c:AV),ys[i]?=some c->∃ v,us[o+i]?=some v/\V L w c v) ->
 (Op.eqItems (d+1) e 1 vs us (List.range' o m)).run P w=.ok r w
 | 0,o,xs,ys,r,h,_,_=>by
   simp only[List.replicate_zero] at h
   exact sQ
 | m+1,o,xs,ys,r,h,hx,hy=>by
   simp only[List.replicate_succ] at h
   match xs,ys,h,hx,hy with
   | a::xr,b::yr,h,hx,hy =>
     simp only[UD] at h
     split at h
     ·rename_i x y hc hr
      injection h with h;subst h
      obtain⟨va,ha,hva⟩:=hx 0 a rfl
      obtain⟨vb,hb,hvb⟩:=hy 0 b rfl
      have ih:=J4 (d:=d) hk m (o+1) xr yr y hr (fun i c hi=>by have:=hx (i+1) c xM;rwa [show o+1+i=o+(i+1) by omega]) (fun i c hi=>by have:=hy (i+1) c xM;rwa [show o+1+i=o+(i+1) by omega])
      rw[show List.range' o (m+1)=o::List.range' (o+1) m from rfl,Op.eqItems]
      simp only[jZ,jC]
      exact qU
     ·cases h
   | [],_,h,_,_=>simp[UD] at h
   | _::_,[],h,_,_=>simp[UD] at h
theorem Of{P:nE}{op:BinOp}{T:nF}{x y:nJ}{w:nH}{L:Nat->Nat->Prop}{xs ys:List AV}{a b:nG}{r:Bool}(h:Pq (eqT P T) xs ys=some r)(hx:V L w (.agg xs) a)(hy:V L w (.agg ys) b) :
 ∃ vs us,a=.agg vs/\b=.agg us/\(eqGuard op T x y (.agg vs) (.agg us)).run P w=.ok () w/\(Op.equalIn 10000 T (.agg vs) (.agg us)).run P w=.ok r w:=by
 unfold Pq eqT at h
 cases hx with
 | agg _ vs hl hv =>
 cases hy with
 | agg _ us hl2 hu =>
 split at h
 ·rename_i l he
  split at he
  ·rename_i fs hT
   split at he
   ·rename_i hc
    have hft:P.fieldsOf T=fs:=by unfold Program.fieldsOf;rw[hT]
    refine⟨_,_,rfl,rfl,run_eqGuard_agg w op T x y _ _ hc.2,?_⟩
    rw[show(10000:Nat)=9999+1 from rfl,run_equalIn_struct w 9999 T _ _ (by rw[hft];exact hT) hc.1,hft]
    refine J5 (L:=L) fs.toList 0 l xs ys r he h (fun i c hi=>?_) (fun i c hi=>?_)
    ·exact rQ
    ·exact rO
   ·cases he
  ·rename_i n e hT
   split at he
   ·rename_i hc
    unfold bD at he
    split at he
    ·rename_i h1
     obtain⟨k,hk,rfl⟩:=Option.map_eq_some_iff.1 he
     obtain⟨i,hi⟩:=Option.isSome_iff_exists.1 h1.2
     refine⟨_,_,rfl,rfl,run_eqGuard_agg w op T x y _ _ hc,?_⟩
     rw[show(10000:Nat)=9999+1 from rfl,run_equalIn_array w 9999 _ _ hT hi,h1.1,lP]
     refine J4 (L:=L) hk n 0 xs ys r h (fun i c hi=>?_) (fun i c hi=>?_)
     ·exact rQ
     ·exact rO
    ·cases he
   ·cases he
  ·cases he
 ·cases h
theorem JI{P:nE}{op:BinOp}{T:nF}{x y:nJ}{ax ay r:AV}{a b:nG}{L:Nat->Nat->Prop}{w:nH}{yc:Bool}(h:XQ P op T ax ay yc=some r)(hyc:yc=true->(y matches .const _)=true)
 (hx:V L w ax a) (hy:V L w ay b):∃ v,(do eqGuard op T x y a b;binOp op T a b).run P w=.ok v w/\V L w r v:=by
 unfold XQ at h
 split at h
 case h_32=>cases h
 case h_30 =>
  cases hx;cases hy;split at h<;>simp at h;subst h;rename_i e
  obtain⟨_,_,_,hu⟩:=Em e;exact⟨_,by simp only[eqGuard,binOp,jZ,Qp hu];rfl,.val _⟩
 case h_31 =>
  cases hx;cases hy;split at h<;>simp at h;subst h;rename_i e
  obtain⟨_,_,_,hu⟩:=Em e;exact⟨_,by simp only[eqGuard,binOp,jZ,Qo hu];rfl,.val _⟩
 case h_1=>cases hx;cases hy;split at h<;>simp at h;subst h;rename_i e;subst e;exact⟨_,by simp[eqGuard,binOp,Op.intArith],.val _⟩
 case h_2=>cases hx;cases hy;split at h<;>simp at h;subst h;rename_i e;subst e;exact⟨_,by simp[eqGuard,binOp,Op.intArith],.val _⟩
 case h_3=>cases hx;cases hy;split at h<;>simp at h;subst h;rename_i e;subst e;exact⟨_,by simp[eqGuard,binOp,Op.intArith],.val _⟩
 case h_4=>cases hx;cases hy;split at h<;>simp at h;subst h;rename_i e;obtain⟨e,e2⟩:=e;subst e;exact⟨_,by simp[eqGuard,binOp,Op.intDiv,e2],.val _⟩
 case h_5=>cases hx;cases hy;split at h<;>simp at h;subst h;rename_i e;obtain⟨e,e2⟩:=e;subst e;exact⟨_,by simp[eqGuard,binOp,Op.intDiv,e2],.val _⟩
 case h_6=>cases hx;cases hy;split at h<;>simp at h;subst h;rename_i e;subst e;exact⟨_,by simp[eqGuard,binOp,Op.intBits],.val _⟩
 case h_7=>cases hx;cases hy;split at h<;>simp at h;subst h;rename_i e;subst e;exact⟨_,by simp[eqGuard,binOp,Op.intBits],.val _⟩
 case h_8=>cases hx;cases hy;split at h<;>simp at h;subst h;rename_i e;subst e;exact⟨_,by simp[eqGuard,binOp,Op.intBits],.val _⟩
 case h_9=>cases hx;cases hy;split at h<;>simp at h;subst h;rename_i e;have e':=Int.not_lt.2 e;exact⟨_,by simp[eqGuard,binOp,Op.shift,e'],.val _⟩
 case h_10=>cases hx;cases hy;split at h<;>simp at h;subst h;rename_i e;have e':=Int.not_lt.2 e;exact⟨_,by simp[eqGuard,binOp,Op.shift,e'],.val _⟩
 case h_11=>cases hx;cases hy;split at h<;>simp at h;subst h;rename_i e;subst e;exact⟨_,by simp[eqGuard,binOp,Op.intCmp],.val _⟩
 case h_12=>cases hx;cases hy;split at h<;>simp at h;subst h;rename_i e;subst e;exact⟨_,by simp[eqGuard,binOp,Op.intCmp],.val _⟩
 case h_13=>cases hx;cases hy;split at h<;>simp at h;subst h;rename_i e;subst e;exact⟨_,by simp[eqGuard,binOp,Op.intCmp],.val _⟩
 case h_14=>cases hx;cases hy;split at h<;>simp at h;subst h;rename_i e;subst e;exact⟨_,by simp[eqGuard,binOp,Op.intCmp],.val _⟩
 case h_15=>cases hx;cases hy;split at h<;>simp at h;subst h;rename_i e;subst e;exact⟨_,by simp[eqGuard,binOp,Op.intCmp];rfl,.val _⟩
 case h_16=>cases hx;cases hy;split at h<;>simp at h;subst h;rename_i e;subst e;exact⟨_,by simp[eqGuard,binOp,Op.intCmp];rfl,.val _⟩
 case h_17 =>
  cases hx;cases hy;split at h<;>simp at h;subst h;rename_i s1 s2 e
  have e2:¬ (((s1.size+s2.size:Nat):Int) > IntKind.i64.max):=by have:IntKind.i64.max=9223372036854775807:=rfl;simp only[lim] at e;omega
  exact⟨_,by simp only[eqGuard,binOp,Op.stringOp];simp only[jZ,kC];rw[ig e2];rfl,.val _⟩
 case h_18=>cases hx;cases hy;simp at h;subst h;exact⟨_,by simp[eqGuard,binOp,Op.stringOp,VX],.val _⟩
 case h_19=>cases hx;cases hy;simp at h;subst h;exact⟨_,by simp[eqGuard,binOp,Op.stringOp,VX],.val _⟩
 case h_20=>cases hx;cases hy;simp at h;subst h;exact⟨_,by simp[eqGuard,binOp,Op.stringOp,ByteArray.toList_eq],.val _⟩
 case h_21=>cases hx;cases hy;simp at h;subst h;exact⟨_,by simp only[eqGuard,binOp,Op.stringOp,VX,jZ];simp[ByteArray.toList_eq],.val _⟩
 case h_22=>cases hx;cases hy;split at h<;>simp at h;subst h;rename_i e;exact⟨_,by simp only[eqGuard,binOp,jZ,UK e];rfl,.val _⟩
 case h_23=>cases hx;cases hy;split at h<;>simp at h;subst h;rename_i e;exact⟨_,by simp only[eqGuard,binOp,jZ,UK e];rfl,.val _⟩
 case h_24 =>
  exact qQ
 case h_25 =>
  exact qQ
 case h_26 =>
  exact rz
 case h_27 =>
  exact rz
 case h_28 =>
  rw[kQ] at h
  obtain⟨r,hr,rfl⟩:=h
  obtain⟨vs,us,rfl,rfl,h1,h2⟩:=Of (op:=.eql) (x:=x) (y:=y) hr hx hy
  exact⟨_,by rw[jZ,h1,kC,run_eql_struct,h2];rfl,.val _⟩
 case h_29 =>
  rw[kQ] at h
  obtain⟨r,hr,rfl⟩:=h
  obtain⟨vs,us,rfl,rfl,h1,h2⟩:=Of (op:=.neq) (x:=x) (y:=y) hr hx hy
  exact⟨_,by rw[jZ,h1,kC,run_neq_struct,h2];rfl,.val _⟩
open Go.RowKit
theorem P7{L:Nat->Nat->Prop}{w:nH}:∀ (cs:List AV) (vs xs:List nG),dK cs=some vs->cs.length=xs.length ->
 (∀ (i:Nat) (c:AV) (x:nG),cs[i]?=some c->xs[i]?=some x->V L w c x)->xs=vs:=by
 intro cs
 induction cs with
 | nil=>intro vs xs h hl _;simp[dK] at h;subst h;simpa using hl.symm
 | cons c r ih =>
   intro vs xs h hl hv
   cases xs with
   | nil=>simp at hl
   | cons x xr =>
     cases c<;>simp only[dK] at h<;>try(cases h;done)
     rename_i v
     split at h
     ·rename_i vr hr
      injection h with h
      subst h
      have:=hv 0 (.val v) x rfl rfl
      cases this
      rw[ih vr xr hr xL (fun i c y hc hy=>hv (i+1) c y (by simpa using hc) (by simpa using hy))]
     ·cases h
theorem UG{L:Nat->Nat->Prop}{w:nH}{a:AV}{v x:nG}(h:a.toVal=some v)(hv:V L w a x):x=v:=by
 cases hv with
 | val y=>simp[AV.toVal] at h;exact h
 | agg cs vs hl hh =>
   simp only[AV.toVal] at h
   split at h
   ·rename_i ys hy
    injection h with h
    subst h
    rw[P7 cs ys vs hy hl hh]
   ·cases h
 | _=>simp[AV.toVal] at h
def OS(P:nE)(src dst:nF)(x:AV)(K:AV->Prop):Prop :=
 match x,P.underlying src,P.underlying dst with
 | .val (.int _ n),some _,some (.int k)=>K (.val (.int k (k.wrap n)))
 | _,_,_=>False
theorem LO{P:nE}{src dst:nF}{x:AV}{K:AV->Prop}{L:Nat->Nat->Prop}{w:nH}{v:nG}(h:OS P src dst x K)(hx:V L w x v) :
 ∃ y av,(convert src dst v).run P w=.ok y w/\V L w av y/\K av:=by
 unfold OS at h
 split at h
 ·rename_i k' n d k hs hd
  cases hx
  exact⟨_,_,by simp[convert,kB hs,kB hd,Conv.intToInt],.val _,h⟩
 ·exact h.elim
def aun(op:UnOp)(x:AV)(K:AV->Prop):Prop :=
 match op,x with
 | .not,.val (.bool b)=>K (.val (.bool (!b)))
 | .neg,.val (.int k n)=>K (.val (.int k (k.wrap (0-n))))
 | _,_=>False
theorem Gr{P:nE}{op:UnOp}{x:AV}{K:AV->Prop}{L:Nat->Nat->Prop}{w:nH}{v:nG}(h:aun op x K)(hx:V L w x v) :
 ∃ y av,(Op.unary op v).run P w=.ok y w/\V L w av y/\K av:=by
 unfold aun at h
 split at h
 ·cases hx;exact⟨_,_,rfl,.val _,h⟩
 ·cases hx;exact⟨_,_,rfl,.val _,h⟩
 ·exact h.elim
def UY(P:nE)(T:nF)(x:AV)(K:AV->Prop):Prop :=
 (P.underlying T).isSome=true/\Z7 (P.underlying T)=false/\match x.toVal with
  | some v=>K (.val (.iface T v))
  | none=>False
theorem N3{P:nE}{T:nF}{x:AV}{K:AV->Prop}{L:Nat->Nat->Prop}{w:nH}{v:nG}(h:UY P T x K)(hx:V L w x v) :
 ∃ y av,(Instr.makeInterface T v).run P w=.ok y w/\V L w av y/\K av:=by
 obtain⟨h1,h2,h⟩:=h
 obtain⟨d,hd⟩:=Option.isSome_iff_exists.1 h1
 split at h
 ·rename_i v' hv
  have:=UG hv hx
  subst this
  refine⟨_,_,?_,.val _,h⟩
  rw[hd] at h2
  simp only[Instr.makeInterface,jZ,kB hd,kC]
  cases d<;>first|rfl|simp[Z7] at h2
 ·exact h.elim
def SG(P:nE)(x:AV)(T:nF)(ok:Bool)(K:AV->Prop):Prop :=
 (P.underlying T).isSome=true/\Z7 (P.underlying T)=false/\match x,ok with
  | .val (.iface t v),true=>if t=T then K (.tup [dL v,.val (.bool true)]) else match Zy P T with
    | some z=>K (.tup [dL z,.val (.bool false)])
    | none=>False
  | .val (.iface t v),false=>t=T/\K (dL v)
  | _,_=>False
theorem V.tup2{L:Nat->Nat->Prop}{w:nH}{a b:AV}{x y:nG}(ha:V L w a x)(hb:V L w b y):V L w (.tup [a,b]) (.tuple #[x,y]) :=
 .tup [a,b] [x,y] rfl (fun i c v hc hv=>by
  match i with
  | 0=>simp at hc hv;subst hc;subst hv;exact ha
  | 1=>simp at hc hv;subst hc;subst hv;exact hb
  | i+2=>simp at hc)
theorem P0{P:nE}{T xT:nF}{x:AV}{ok:Bool}{K:AV->Prop}{L:Nat->Nat->Prop}{w:nH}{v:nG}(h:SG P x T ok K)(hx:V L w x v) :
 ∃ y av,(Instr.typeAssert v xT T ok).run P w=.ok y w/\V L w av y/\K av:=by
 obtain⟨h1,h2,h⟩:=h
 obtain⟨d,hd⟩:=Option.isSome_iff_exists.1 h1
 rw[hd] at h2
 split at h
 ·rename_i t v'
  cases hx
  split at h
  ·rename_i e
   subst e
   refine⟨_,_,?_,V.tup2 (eX _ _ v') (.val _),h⟩
   exact sX
  ·rename_i e
   split at h
   ·rename_i z hz
    refine⟨_,_,?_,V.tup2 (eX _ _ z) (.val _),h⟩
    simp only[Instr.typeAssert,jZ,kB hd,kC]
    cases d<;>first|(simp[Z7] at h2;done)|(simp[e,WV hz])
   ·exact h.elim
 ·rename_i t v'
  cases hx
  obtain⟨e,h⟩:=h
  subst e
  refine⟨_,_,?_,eX _ _ v',h⟩
  exact sX
 ·exact h.elim
def XP(x:AV)(i:Nat)(K:AV->Prop):Prop :=
 match x with
 | .tup vs=>match vs[i]? with
   | some v=>K v
   | none=>False
 | _=>False
theorem Ps{P:nE}{x:AV}{i:Nat}{K:AV->Prop}{L:Nat->Nat->Prop}{w:nH}{v:nG}(h:XP x i K)(hx:V L w x v) :
 ∃ y av,(Instr.extract v i).run P w=.ok y w/\V L w av y/\K av:=by
 unfold XP at h
 split at h
 ·cases hx with
  | tup cs vs hl hv =>
    split at h
    ·rename_i av ha
     have hlt:i<vs.length:=by have:=(List.getElem?_eq_some_iff.1 ha).1;omega
     exact⟨vs[i],av,by simp[Instr.extract,hlt],hv i av _ ha (iO hlt),h⟩
    ·exact h.elim
 ·exact h.elim
def Ys(P:nE)(t:nF):nM (List (Nat×Nat)) :=
 match P.underlying t with
 | some (.struct fields)=>fields.toList.mapM fun f=>(P.info? f.type).map fun i=>(f.offset,i.size)
 | some (.array n e)=>(P.info? e).map fun ie=>(List.range n).map fun i=>(i * ie.size,ie.size)
 | _=>none
def Uw(place:Nat->nM (Nat×Nat))(cells:List AV):List (Nat×AV)->nM (List AV)
 | []=>some cells
 | (i,a)::r=>match place i,a.cells with
   | some (off,size),some cs=>if cs.length=size/\off+size<=cells.length then Uw place (Yn cells off cs) r else none
   | _,_=>none
theorem OE(off:Nat):∀ (vs:List nG) (k:Nat) (cells:List nG),off+k+vs.length<=cells.length ->
 ((vs.zipIdx k).foldl (fun cs (p:nG×Nat)=>cs.setIfInBounds (off+p.2) p.1) cells.toArray).toList=cells.take (off+k)++(vs++cells.drop (off+k+vs.length)):=by
 intro vs
 induction vs with
 | nil=>intro k cells h;simp
 | cons v r ih =>
   intro k cells h
   simp only[ij] at h
   simp only[List.zipIdx_cons,lQ]
   rw[show cells.toArray.setIfInBounds (off+k) v=(cells.set (off+k) v).toArray from by simp]
   rw[ih (k+1) (cells.set (off+k) v) xz]
   have ho:off+k<cells.length:=by omega
   rw[show off+(k+1)=off+k+1 from by omega,List.take_set,List.drop_set_of_lt xh,List.take_succ_eq_append_getElem ho,List.set_append_right _ _ (by rw[ip];omega)]
   simp only[ip,ks (Nat.le_of_lt ho),lH,List.set_cons_zero,ij,ju,lI,kE]
   rw[show off+k+1+r.length=off+k+(r.length+1) from by omega]
   rfl
theorem RU{L:Nat->Nat->Prop}{w:nH}{place:Nat->nM (Nat×Nat)}:∀ (ps:List (Nat×AV)) (qs:List (Nat×nG)) (cells out:List AV) (vs:List nG),Uw place cells ps=some out ->
 ps.map (·.1)=qs.map (·.1)->(∀ (i:Nat) (p:Nat×AV) (q:Nat×nG),ps[i]?=some p->qs[i]?=some q->V L w p.2 q.2) ->
 cells.length=vs.length->(∀ (i:Nat) (c:AV) (x:nG),cells[i]?=some c->vs[i]?=some x->V L w c x) ->
 ∃ ys:List nG,Instr.fill place vs.toArray qs=some ys.toArray/\out.length=ys.length/\∀ (i:Nat) (c:AV) (x:nG),out[i]?=some c->ys[i]?=some x->V L w c x:=by
 intro ps
 induction ps with
 | nil =>
   intro qs cells out vs h hk _ hl hv
   simp[Uw] at h
   subst h
   have:qs=[]:=by simpa using hk.symm
   subst this
   exact⟨vs,rfl,hl,hv⟩
 | cons p r ih =>
   intro qs cells out vs h hk hq hl hv
   obtain⟨i,a⟩:=p
   cases qs with
   | nil=>simp at hk
   | cons q qr =>
     obtain⟨i',v⟩:=q
     simp only[iR,lR] at hk
     obtain⟨rfl,hk⟩:=hk
     simp only[Uw] at h
     split at h
     ·rename_i off size cs hp hc
      split at h
      ·rename_i hsz
       obtain⟨c1,c2⟩:=(hq 0 (i,a) (i,v) rfl rfl).cells_of hc
       simp only at c1 c2
       have hin:off+cs.length<=cells.length:=by omega
       obtain⟨ys,hf,hy1,hy2⟩:=ih qr (Yn cells off cs) out (vs.take off++(v.cells.toList++vs.drop (off+v.cells.toList.length))) h hk
        (fun j p q hp hq'=>hq (j+1) p q xQ (by simpa using hq')) (by simp only[Yn,ii,ip,iP];omega) (fun j c x hcj hxj=>by
         rcases Qg hin j c hcj with⟨a1,a2,a3⟩|⟨a1,a3⟩<;>rcases RD (cs:=vs) (vs:=v.cells.toList) (o:=off) xh j x hxj with⟨b1,b2,b3⟩|⟨b1,b3⟩
         ·exact c2 _ c x a3 b3
         ·omega
         ·omega
         ·exact hv j c x a3 b3)
       refine⟨ys,?_,hy1,hy2⟩
       have hs:v.cells.size=cs.length:=by simpa using c1
       simp only[Instr.fill,hp]
       rw[ig (by simp only[kg,kH,kD,not_or,ne_eq,jm,lS,lT,Classical.not_not];omega)]
       have:=OE off v.cells.toList 0 vs xz
       simp only[iw] at this
       rw[<- hf]
       congr 1
       apply Array.toList_inj.1
       rw[<- this,<- Array.foldl_toList]
       simp
      ·cases h
     ·cases h
def YE(z:nG):List AV:=z.cells.toList.map dq
theorem P2{L:Nat->Nat->Prop}{w:nH}(z:nG):(YE z).length=z.cells.toList.length/\∀ (i:Nat) (c:AV) (x:nG),(YE z)[i]?=some c->z.cells.toList[i]?=some x->V L w c x:=by
 refine⟨by simp[YE],fun i c x hc hx=>?_⟩
 simp only[YE,jp,kQ] at hc
 obtain⟨y,hy,rfl⟩:=hc
 rw[hx] at hy
 injection hy with hy
 subst hy
 exact eU _ _ _
theorem Pr{p p':Nat->nM (Nat×Nat)}(h:∀ i x,p i=some x->p' i=some x):∀ (ps:List (Nat×AV)) (cells cs:List AV),Uw p cells ps=some cs->Uw p' cells ps=some cs
 | [],_,_,e=>e
 | (i,a)::r,cells,cs,e=>by
   simp only[Uw] at e ⊢
   split at e
   ·rename_i off size cc hp hc
    rw[h i _ hp,hc]
    simp only
    split at e
    ·rename_i hcond
     rw[gZ hcond]
     exact Pr h r _ cs e
    ·cases e
   ·cases e
def VD(P:nE)(t:nF)(ps:List (Nat×AV))(K:AV->Prop):Prop :=
 match Zy P t,Ys P t with
 | some z,some pl=>match Uw (fun i=>pl[i]?) (YE z) ps with
   | some cs=>K (.agg cs)
   | none=>False
 | _,_=>False
theorem N8{P:nE}{t:nF}{ps:List (Nat×AV)}{qs:nN (Nat×nG)}{K:AV->Prop}{L:Nat->Nat->Prop}{w:nH}(h:VD P t ps K)
 (hk:ps.map (·.1)=qs.toList.map (·.1)) (hq:∀ (i:Nat) (p:Nat×AV) (q:Nat×nG),ps[i]?=some p->qs.toList[i]?=some q->V L w p.2 q.2) :
 ∃ y av,(Instr.build t qs).run P w=.ok y w/\V L w av y/\K av:=by
 unfold VD at h
 split at h
 ·rename_i z pl hz hp
  split at h
  ·rename_i cs hc
   obtain⟨z1,z2⟩:=P2 (L:=L) (w:=w) z
   unfold Ys at hp
   unfold Zy at hz
   simp only[lz] at hz
   obtain⟨it,hit,hz⟩:=hz
   split at hp
   ·rename_i fields hu
    obtain⟨ys,hf,hy1,hy2⟩:=RU ps qs.toList (YE z) cs z.cells.toList hc hk hq z1 z2
    refine⟨_,_,run_build w t qs ys.toArray ?_,.agg cs ys hy1 hy2,h⟩
    unfold Program.built
    simp only[hit,hu,hz,hp]
    simpa using hf
   ·rename_i n e hu
    rw[kQ] at hp
    obtain⟨ie,hie,rfl⟩:=hp
    have hc':=Pr (p':=fun i=>some (i * ie.size,ie.size)) (fun i x hx=>by
     simp only[jp,kQ] at hx
     obtain⟨j,hj,rfl⟩:=hx
     have:=(List.getElem?_eq_some_iff.1 hj).2
     rw[List.getElem_range] at this
     rw[this]) ps (YE z) cs hc
    obtain⟨ys,hf,hy1,hy2⟩:=RU ps qs.toList (YE z) cs z.cells.toList hc' hk hq z1 z2
    refine⟨_,_,run_build w t qs ys.toArray ?_,.agg cs ys hy1 hy2,h⟩
    unfold Program.built
    simp only[hit,hu,hz,hie]
    simpa using hf
   ·cases hp
  ·exact h.elim
 ·exact h.elim
open Go.RowKit
def XE(s:Nat):List AV->nM (List (List AV))
 | []=>some []
 | a::r=>match a.cells,XE s r with
   | some cs,some l=>if cs.length=s then some (cs::l) else none
   | _,_=>none
theorem SE{s:Nat}:∀ (aS:List AV) (es:List (List AV)),XE s aS=some es->es.length=aS.length/\∀ (i:Nat) (e:List AV),es[i]?=some e->e.length=s:=by
 intro aS
 induction aS with
 | nil=>intro es h;simp[XE] at h;subst h;simp
 | cons a r ih =>
   intro es h
   simp only[XE] at h
   split at h
   ·rename_i cs l hc hl
    split at h
    ·rename_i hs
     injection h with h
     subst h
     obtain⟨h1,h2⟩:=ih l hl
     refine⟨by simp[h1],fun i e he=>?_⟩
     cases i with
     | zero=>simp at he;subst he;exact hs
     | succ i=>exact h2 i e xN
    ·cases h
   ·cases h
def Su(vs:List nG):List nG:=vs.flatMap (·.cells.toList)
theorem Rj(v:nG)(r:List nG):Su (v::r)=v.cells.toList++Su r:=by simp[Su]
theorem EJ{s:Nat}:∀ vs:List nG,(∀ v∈vs,v.cells.toList.length=s)->(Su vs).length=vs.length * s:=by
 intro vs
 induction vs with
 | nil=>intro _;simp[Su]
 | cons v r ih =>
   intro h
   rw[Rj,ii,ih (fun x hx=>h x (kR _ hx)),h v ir,ij,lU]
   omega
theorem EM{s:Nat}:∀ (vs:List nG) (k:Nat) (done rest:List nG),done.length=k * s->rest.length=vs.length * s->(∀ v∈vs,v.cells.toList.length=s) ->
 Instr.fill (fun i=>some (i * s,s)) (done++rest).toArray ((List.range' k vs.length).zip vs)=some (done++Su vs).toArray:=by
 intro vs
 induction vs with
 | nil=>intro k done rest h1 h2 h3;simp at h2;subst h2;simp[Instr.fill,Su]
 | cons v r ih =>
   intro k done rest h1 h2 h3
   have hv:=h3 v ir
   have hs:v.cells.size=s:=by simpa using hv
   simp only[ij] at h2
   have e2:(r.length+1) * s=r.length * s+s:=lU _ _
   simp only[ij,lV,lW,Instr.fill]
   rw[ig (by simp only[kg,ii,kH,kD,not_or,ne_eq,jm,lS,lT,Classical.not_not];omega)]
   have hf:=OE (k * s) v.cells.toList 0 (done++rest) (by simp only[ii];omega)
   simp only[iw] at hf
   rw[<- h1,List.take_append_length] at hf
   have hd:(done++rest).drop (done.length+v.cells.toList.length)=rest.drop s:=by
    rw[hv,List.drop_append,lX xh]
    simp
   rw[hd] at hf
   have:=ih (k+1) (done++v.cells.toList) (rest.drop s) (by rw[ii,hv,h1,lU]) (by rw[iP];omega) (fun x hx=>h3 x (kR _ hx))
   rw[Rj,<- ju,<- this]
   congr 1
   apply Array.toList_inj.1
   rw[ju,<- hf,<- Array.foldl_toList,h1]
   simp
theorem EK{s:Nat}:∀ (vs:List nG),(∀ v∈vs,v.cells.toList.length=s)->∀ (i j:Nat) (v:nG),vs[i]?=some v->j<s->(Su vs)[i * s+j]?=v.cells.toList[j]?:=by
 intro vs
 induction vs with
 | nil=>intro _ i j v h;simp at h
 | cons x r ih =>
   intro h i j v hv hj
   have hx:=h x ir
   rw[Rj]
   cases i with
   | zero=>simp at hv;subst hv;simp only[Nat.zero_mul,jG];rw[jU xh]
   | succ i =>
     rw[jT (by rw[hx,lU];omega),hx,show(i+1) * s+j-s=i * s+j from by rw[lU];omega]
     exact ih (fun y hy=>h y (kR _ hy)) i j v (by simpa using hv) hj
theorem LL{L:Nat->Nat->Prop}{w:nH}{s:Nat}:∀ (aS:List AV) (es:List (List AV)) (vs:List nG),XE s aS=some es->aS.length=vs.length ->
 (∀ (i:Nat) (a:AV) (v:nG),aS[i]?=some a->vs[i]?=some v->V L w a v) ->
 (∀ v∈vs,v.cells.toList.length=s)/\∀ (i:Nat) (e:List AV) (j:Nat) (c:AV) (x:nG),es[i]?=some e->e[j]?=some c->(Su vs)[i * s+j]?=some x->V L w c x:=by
 intro aS es vs h hl hv
 have h1:∀ (aS:List AV) (es:List (List AV)),XE s aS=some es->∀ (i:Nat) (a:AV),aS[i]?=some a->∃ e,es[i]?=some e/\a.cells=some e/\e.length=s:=by
  intro aS
  induction aS with
  | nil=>intro es _ i a h;simp at h
  | cons b r ih =>
    intro es h i a ha
    simp only[XE] at h
    split at h
    ·rename_i cs l hc hl
     split at h
     ·rename_i hs
      injection h with h
      subst h
      cases i with
      | zero=>simp at ha;subst ha;exact⟨cs,rfl,hc,hs⟩
      | succ i=>obtain⟨e,he,k⟩:=ih l hl i a xR;exact⟨e,by simpa using he,k⟩
     ·cases h
    ·cases h
 have hc:∀ v∈vs,v.cells.toList.length=s:=by
  intro v hvm
  obtain⟨i,hi,rfl⟩:=List.mem_iff_getElem.1 hvm
  have hi':i<aS.length:=by omega
  obtain⟨e,_,hce,hel⟩:=h1 aS es h i aS[i] (iO hi')
  have:=((hv i aS[i] vs[i] (iO hi') (iO hi)).cells_of hce).1
  omega
 refine⟨hc,fun i e j c x hei hcj hx=>?_⟩
 have hil:i<aS.length:=by
  have h2:=(SE aS es h).1
  have:=(List.getElem?_eq_some_iff.1 hei).1
  omega
 obtain⟨e',he',hce,hel⟩:=h1 aS es h i aS[i] (iO hil)
 rw[hei] at he'
 injection he' with he'
 subst he'
 have hj:j<s:=by have:=(List.getElem?_eq_some_iff.1 hcj).1;omega
 have hiv:i<vs.length:=by omega
 rw[EK vs hc i j vs[i] (iO hiv) hj] at hx
 exact((hv i aS[i] vs[i] (iO hil) (iO hiv)).cells_of hce).2 j c x hcj hx
theorem fQ{L L':Nat->Nat->Prop}{w:nH}{s:Nat}{es:List (List AV)}{xs:List nG}{T:nF}{cap b:Nat}(r:Rt)(hb:w.heap[b]?=some (.cells xs.toArray T (0,0)))
 (hcap:es.length<=cap) (hlim:es.length<=lim) (hsz:∀ (i:Nat) (e:List AV),es[i]?=some e->e.length=s) (hr:Py r (some ⟨b,0,none⟩) es.length cap s)
 (hlen:es.length * s<=xs.length) (hL:∀ k,k<es.length * s->¬ L' b k) (h1:∀ (i:Nat) (e:List AV),es[i]?=some e->e.all AV.one=true)
 (hv:∀ (i:Nat) (e:List AV) (j:Nat) (c:AV) (x:nG),es[i]?=some e->e[j]?=some c->xs[i * s+j]?=some x->V L' w c x) :
 V L' w (.list r s es) (.slice (some ⟨b,0,none⟩) es.length cap):=by
 have idx:∀ (i:Nat) (e:List AV) (j:Nat) (c:AV),es[i]?=some e->e[j]?=some c->i * s+j<es.length * s:=by
  intro i e j c he hc
  have hi:=(List.getElem?_eq_some_iff.1 he).1
  have hj:=(List.getElem?_eq_some_iff.1 hc).1
  rw[hsz i e he] at hj
  calc i * s+j<i * s+s:=by omega
   _=(i+1) * s:=(lU _ _).symm
   _<=es.length * s:=lY _ hi
 refine .list r s es cap _ b 0 (fun k=>xs.getD k .nilFunc) hcap hlim hsz (fun _=>rfl) hr (fun i e j c he hc=>?_) (fun i e j c he hc=>?_)
 ·have hk:=idx i e j c he hc
  have hlt:i * s+j<xs.length:=by omega
  simp only[jG]
  refine⟨hL _ hk,?_,?_⟩
  ·unfold World.cell?;simp only[hb];simp[hlt]
  ·have:=(hv i e j c xs[i * s+j] he hc (iO hlt)).one_of (List.all_eq_true.1 (h1 i e he) c (iG hc))
   simpa[hlt] using this
 ·have hk:=idx i e j c he hc
  have hlt:i * s+j<xs.length:=by omega
  have:=hv i e j c xs[i * s+j] he hc (iO hlt)
  simpa[hlt] using this
def YH(P:nE)(t:nF)(len:Nat)(ps:List (Nat×AV))(K:AV->Prop):Prop :=
 match Yf P t with
 | some e=>match ZB P e,Zy P e with
   | some s,some z=>0<s/\ps.map (·.1)=List.range len/\len * s<=16777216/\z.cells.size=s/\match XE s (ps.map (·.2)) with
     | some es=>es.all (fun e=>e.all AV.one)=true/\K (.list .full s es)
     | none=>False
   | _,_=>False
 | none=>False
theorem IJ{α:Type}(l:List (Nat×α)):l=(l.map (·.1)).zip (l.map (·.2)):=by
 induction l with
 | nil=>rfl
 | cons p r ih=>simp only[iR,lW];rw[<- ih]
theorem SF{P:nE}{t:nF}{len:Nat}{ps:List (Nat×AV)}{qs:nN (Nat×nG)}{K:AV->Prop}{σ:Store}{w:nH}(h:YH P t len ps K)(hσ:Zq σ w)
 (hk:ps.map (·.1)=qs.toList.map (·.1)) (hq:∀ (i:Nat) (p:Nat×AV) (q:Nat×nG),ps[i]?=some p->qs.toList[i]?=some q->V (live σ) w p.2 q.2) :
 ∃ y w' av,(Instr.buildSlice t len qs).run P w=.ok y w'/\V (live σ) w' av y/\Zq σ w'/\Ev σ w σ w'/\K av:=by
 unfold YH at h
 split at h
 ·rename_i e he
  split at h
  ·rename_i s z hs hz
   obtain⟨hs0,h1,h2,h3,h⟩:=h
   split at h
   ·rename_i es hes
    obtain⟨h4,h⟩:=h
    have hlen:ps.length=len:=by have:=je List.length h1;simpa using this
    have hql:qs.toList.length=len:=by have:=je List.length hk;simp only[io] at this;omega
    obtain⟨e1,e2⟩:=SE _ _ hes
    obtain⟨c1,c2⟩:=LL (L:=live σ) (w:=w) (ps.map (·.2)) es (qs.toList.map (·.2)) hes (by simp only[io];omega) (fun i a v ha hv=>by
     simp only[jp,kQ] at ha hv
     obtain⟨p,hp,rfl⟩:=ha
     obtain⟨q,hq',rfl⟩:=hv
     exact hq i p q hp hq')
    simp only[io] at e1
    have hfl:=EJ (s:=s) (qs.toList.map (·.2)) c1
    simp only[io,hql] at hfl
    let zc:nN nG:=if len * s=0 then #[] else z.cells
    have hfill:Instr.fill (fun i=>some (i * s,s)) ((Array.range (len * s)).map (zc[· % zc.size]!)) qs.toList=some (Su (qs.toList.map (·.2))).toArray:=by
     have:=EM (s:=s) (qs.toList.map (·.2)) 0 [] ((Array.range (len * s)).map (zc[· % zc.size]!)).toList xf (by simp[hql]) c1
     simp only[kF,io,hql] at this
     rw[<- lP,<- h1,hk,<- IJ,Array.toArray_toList] at this
     exact this
    have hrun:(Instr.buildSlice t len qs).run P w=.ok (.slice (some ⟨w.heap.size,0,none⟩) len len) (w.alloc (.cells (Su (qs.toList.map (·.2))).toArray e)):=by
     have hno:¬ len * s > 2 ^ 24:=by omega
     unfold Instr.buildSlice
     simp only[jZ,kB (Xr he),kC,Z8 hs,hno,lJ,kf]
     by_cases h0:len * s=0
     ·have hz0:zc=#[]:=by simp[zc,h0]
      rw[hz0] at hfill
      simp only[h0,iE,jZ,kf,kC] at hfill ⊢
      rw[hfill]
      simp[newRow]
     ·have hz0:zc=z.cells:=by simp[zc,h0]
      rw[hz0] at hfill
      simp only[h0,lJ,jZ,WV hz,kf,kC]
      rw[hfill]
      simp[newRow]
    have ev:=Ev.alloc0 (σ:=σ) (w:=w) (.cells (Su (qs.toList.map (·.2))).toArray e)
    refine⟨_,_,_,hrun,?_,hσ.alloc0 _,ev,h⟩
    have hel:es.length=len:=by omega
    have key:=fQ (L:=live σ) (L':=live σ) (w:=w.alloc (.cells (Su (qs.toList.map (·.2))).toArray e)) (s:=s) (es:=es) (xs:=Su (qs.toList.map (·.2))) (T:=e) (cap:=len) (b:=w.heap.size) .full
     (Xb w _) xh (by
      have:=Nat.le_mul_of_pos_right len hs0
      simp only[lim];omega) e2 (by simp[Py,hel]) (by rw[hel];omega) (fun k hk hl=>absurd (Ng hσ hl) xh)
     (fun i x hx=>List.all_eq_true.1 h4 x (iG hx)) (fun i x j c y hx hc hy=>(c2 i x j c y hx hc hy).ev ev)
    rw[hel] at key
    exact key
   ·exact h.elim
  ·exact h.elim
 ·exact h.elim
end Go.Vx
end
