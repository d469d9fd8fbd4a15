/- Part Q02 of the proof of treeLooksProved: the walk of the program on abstract values, and the plain law. -/
import Derived.Test.YtmedmnondjmleaaGreatQ01
import Derived.Laws.Strings
import Derived.Laws.StructEq
import Derived.Laws.Tables
set_option linter.unusedVariables false
set_option linter.unusedSimpArgs false
section
namespace Go.Vx
open Go.RowKit
def WB (P:Program)(s:TypeId)(p:AV)(f:Nat)(K:AV→Prop):Prop :=
 match p,Zz P s f with
 | .ro cs,some off=>K (.ro (cs.drop off))
 | .val (.pointer (some ⟨b,o,none⟩)),some off=>K (.val (.pointer (some ⟨b,o+off,none⟩)))
 | _,_=>False
theorem TK {P:Program}{s:TypeId}{f off:Nat}(h:Zz P s f=some off)(b o:Nat)(w:World) :
 (Instr.fieldAt s (.pointer (some ⟨b,o,none⟩)) f).run P w=.ok (.pointer (some ⟨b,o+off,none⟩)) w:=by
 unfold Zz at h
 split at h
 ·rename_i fs hu
  simp only [Option.bind_eq_some_iff] at h
  obtain ⟨fl,hf,h⟩:=h
  split at h
  ·rename_i k hk
   injection h with h
   subst h
   simp [Instr.fieldAt,run_underlying hu,hf,Instr.sureAddr,fieldPlace,Z2 hk,YY]
  ·cases h
 ·cases h
theorem V.ro_drop {L:Nat→Nat→Prop}{w:World}{cs:List AV}{b o:Nat}(h:V L w (.ro cs) (.pointer (some ⟨b,o,none⟩)))(n:Nat):V L w (.ro (cs.drop n)) (.pointer (some ⟨b,o+n,none⟩)):=by
 cases h with
 | ro _ _ _ rd h1 h2 =>
   refine .ro _ b (o+n) (fun j=>rd (n+j)) (fun j c hj=>?_) (fun j c hj=>?_)
   ·rw [List.getElem?_drop] at hj
    have:=h1 (n+j) c hj
    rw [show o+n+j=o+(n+j) from by omega]
    exact this
   ·rw [List.getElem?_drop] at hj
    exact h2 (n+j) c hj
theorem V.ro_form {L:Nat→Nat→Prop}{w:World}{cs:List AV}{v:Value}(h:V L w (.ro cs) v):∃ b o,v=.pointer (some ⟨b,o,none⟩):=by
 cases h with
 | ro _ b o _ _ _=>exact ⟨b,o,rfl⟩
theorem NG {P:Program}{s:TypeId}{p:AV}{f:Nat}{K:AV→Prop}{L:Nat→Nat→Prop}{w:World}{v:Value}(h:WB P s p f K)(hp:V L w p v) :
 ∃ x av,(Instr.fieldAt s v f).run P w=.ok x w∧V L w av x∧K av:=by
 unfold WB at h
 split at h
 ·rename_i cs off hf
  obtain ⟨b,o,rfl⟩:=hp.ro_form
  exact ⟨_,_,TK hf b o w,hp.ro_drop off,h⟩
 ·rename_i b o off hf
  cases hp
  exact ⟨_,_,TK hf b o w,.val _,h⟩
 ·exact eY
def Z7 (P:Program)(t:TypeId)(x i:AV)(K:AV→Prop):Prop :=
 match x,i,ZA P t with
 | .list _ s es,.val (.int _ n),some e=>Zh P e=some s∧0≤n∧n<es.length∧∀ c,es[n.toNat]?=some c→K (.ro c)
 | .val (.slice (some ⟨b,o,none⟩) len _),.val (.int _ n),some e=>match Zh P e with
   | some s=>0≤n∧n<len∧K (.val (.pointer (some ⟨b,o+n.toNat * s,none⟩)))
   | none=>False
 | .val (.pointer (some ⟨b,o,none⟩)),.val (.int _ n),none=>match P.underlying t with
   | some (.array len e)=>match Zh P e with
     | some s=>0≤n∧n<len∧K (.val (.pointer (some ⟨b,o+n.toNat * s,none⟩)))
     | none=>False
   | _=>False
 | .ro cs,.val (.int _ n),none=>match P.underlying t with
   | some (.array len e)=>match Zh P e with
     | some s=>0≤n∧n<len∧K (.ro (cs.drop (n.toNat * s)))
     | none=>False
   | _=>False
 | _,_,_=>False
theorem Xo {P:Program}{t e:TypeId}(h:ZA P t=some e):P.underlying t=some (.slice e):=by
 unfold ZA at h
 split at h
 ·rename_i hu;injection h with h;rw [hu,h]
 ·cases h
theorem SL {P:Program}{t:TypeId}{x i:AV}{K:AV→Prop}{L:Nat→Nat→Prop}{w:World}{vx vi:Value}(h:Z7 P t x i K)(hx:V L w x vx)(hi:V L w i vi) :
 ∃ y av,(Instr.indexAt t vx vi).run P w=.ok y w∧V L w av y∧K av:=by
 unfold Z7 at h
 split at h
 ·rename_i r s es k n e he
  cases hi
  obtain ⟨hs,h0,hn,hk⟩:=h
  cases hx with
  | list _ _ _ cap a b o rd hcap hlim hsz ha hr h1 h2 =>
    have hne:es≠[]:=by rintro rfl;simp at hn;omega
    have hlt:n.toNat<es.length:=by omega
    rw [ha hne]
    refine ⟨.pointer (some ⟨b,o+n.toNat * s,none⟩),_,?_,?_,hk es[n.toNat] (List.getElem?_eq_getElem hlt)⟩
    ·simp [Instr.indexAt,asIntOf,run_underlying (Xo he),Z2 hs,h0,hn,YY]
    ·refine .ro _ b _ (fun j=>rd (n.toNat * s+j)) (fun j c hj=>?_) (fun j c hj=>h2 _ _ _ _ (List.getElem?_eq_getElem hlt) hj)
     have:=h1 _ _ j c (List.getElem?_eq_getElem hlt) hj
     rw [Nat.add_assoc]
     exact this
 ·rename_i b o len cap k n e he
  cases hx
  cases hi
  split at h
  ·rename_i s hs
   obtain ⟨h0,hn,hk⟩:=h
   exact ⟨_,_,by simp [Instr.indexAt,asIntOf,run_underlying (Xo he),Z2 hs,h0,hn,YY],.val _,hk⟩
  ·exact eY
 ·rename_i b o k n he
  cases hx
  cases hi
  split at h
  ·rename_i len e hu
   split at h
   ·rename_i s hs
    obtain ⟨h0,hn,hk⟩:=h
    exact ⟨_,_,by simp [Instr.indexAt,asIntOf,run_underlying hu,Z2 hs,Instr.sureAddr,h0,hn,YY],.val _,hk⟩
   ·exact eY
  ·exact eY
 ·rename_i cs k n he
  cases hi
  obtain ⟨b,o,rfl⟩:=hx.ro_form
  split at h
  ·rename_i len e hu
   split at h
   ·rename_i s hs
    obtain ⟨h0,hn,hk⟩:=h
    exact ⟨_,_,by simp [Instr.indexAt,asIntOf,run_underlying hu,Z2 hs,Instr.sureAddr,h0,hn,YY],hx.ro_drop _,hk⟩
   ·exact eY
  ·exact eY
 ·exact eY
def bAt (s:ByteArray)(i:Nat):Int:=((s.data.toList.getD i 0).toNat:Int)
def Vp (P:Program)(t:TypeId)(x i:AV)(K:AV→Prop):Prop :=
 match x,i,P.underlying t with
 | .val (.string s),.val (.int _ n),some .string=>0≤n∧n<s.size∧K (.val (.int .u8 (bAt s n.toNat)))
 | .agg cs,.val (.int _ n),some (.array len e)=>match Zh P e with
   | some s=>0≤n∧n<len∧match Vj P e (cs.drop (n.toNat * s)) with
     | some v=>K v
     | none=>False
   | none=>False
 | _,_,_=>False
theorem P1 {P:Program}{T:TypeId}{L:Nat→Nat→Prop}{w:World}{cs:List AV}{vs:List Value}{off:Nat}{av:AV}(h:Vj P T (cs.drop off)=some av)(hl:cs.length=vs.length)
 (hv:∀ (i:Nat) (c:AV) (v:Value),cs[i]?=some c→vs[i]?=some v→V L w c v):∃ v,(part T vs.toArray off).run P w=.ok v w∧V L w av v:=by
 unfold Vj at h
 split at h
 ·rename_i n ha hs
  split at h
  ·rename_i hn
   injection h with h
   subst h
   have hn':n≤cs.length-off:=by simpa using hn
   refine ⟨.agg (vs.toArray.extract off (off+n)),by simp [part,WT ha,Z2 hs],?_⟩
   have e:vs.toArray.extract off (off+n)=((vs.drop off).take n).toArray:=by
    rw [List.extract_toArray];simp [List.extract_eq_take_drop]
   rw [e]
   refine .agg _ _ (by simp;omega) (fun i c v hc hvi=>?_)
   have hi:i<n:=by have:=(List.getElem?_eq_some_iff.1 hc).1;simp at this;omega
   rw [List.getElem?_take_of_lt hi,List.getElem?_drop] at hc hvi
   exact hv _ c v hc hvi
  ·cases h
 ·rename_i n ha hs
  have h0:cs[off]?=some av:=by rw [List.head?_drop] at h;exact h
  have hlt:off<vs.length:=by have:=(List.getElem?_eq_some_iff.1 h0).1;omega
  refine ⟨vs[off],by simp [part,WT ha,hlt],hv off av _ h0 (List.getElem?_eq_getElem hlt)⟩
 ·cases h
theorem NE {P:Program}{t:TypeId}{x i:AV}{K:AV→Prop}{L:Nat→Nat→Prop}{w:World}{vx vi:Value}(h:Vp P t x i K)(hx:V L w x vx)(hi:V L w i vi) :
 ∃ y av,(Instr.index t vx vi).run P w=.ok y w∧V L w av y∧K av:=by
 unfold Vp at h
 split at h
 ·rename_i s k n hu
  cases hx
  cases hi
  obtain ⟨h0,hn,hk⟩:=h
  have hlt:n.toNat<s.size:=by omega
  have e:s[n.toNat]?=some s[n.toNat]:=by simp [hlt]
  have hr:(Instr.index t (.string s) (.int k n)).run P w=.ok (.int .u8 (s[n.toNat]).toNat) w:=by
   simp only [Instr.index,asIntOf,Sem.run_bind,Sem.run_pure,Result.andThen_ok,run_underlying hu]
   rw [if_pos h0,e]
   rfl
  have this:n.toNat<s.data.toList.length:=by rw [Array.length_toList];exact hlt
  have e2:bAt s n.toNat=((s[n.toNat]).toNat:Int):=by
   unfold bAt
   rw [List.getD_eq_getElem?_getD,List.getElem?_eq_getElem this,Option.getD_some]
   rfl
  exact ⟨_,_,hr,.val _,e2 ▸ hk⟩
 ·rename_i cs k n len e hu
  cases hi
  cases hx with
  | agg _ vs hl hv =>
    split at h
    ·rename_i s hs
     obtain ⟨h0,hn,h⟩:=h
     split at h
     ·rename_i av hp
      obtain ⟨v,hr,hv'⟩:=P1 (P:=P) hp hl hv
      exact ⟨v,av,by simp [Instr.index,asIntOf,run_underlying hu,h0,hn,Z2 hs,hr],hv',h⟩
     ·exact eY
    ·exact eY
 ·exact eY
def Wt (P:Program)(s:TypeId)(x:AV)(f:Nat)(K:AV→Prop):Prop :=
 match x,fTy P s f with
 | .agg cs,some (off,T)=>match Vj P T (cs.drop off) with
   | some v=>K v
   | none=>False
 | _,_=>False
theorem PG {P:Program}{s:TypeId}{x:AV}{f:Nat}{K:AV→Prop}{L:Nat→Nat→Prop}{w:World}{vx:Value}(h:Wt P s x f K)(hx:V L w x vx) :
 ∃ y av,(Instr.field s vx f).run P w=.ok y w∧V L w av y∧K av:=by
 unfold Wt at h
 split at h
 ·rename_i cs off T hf
  cases hx with
  | agg _ vs hl hv =>
    split at h
    ·rename_i av hp
     obtain ⟨v,hr,hv'⟩:=P1 (P:=P) hp hl hv
     unfold fTy at hf
     split at hf
     ·rename_i fs hu
      simp only [Option.map_eq_some_iff,Prod.mk.injEq] at hf
      obtain ⟨fl,hfl,rfl,rfl⟩:=hf
      exact ⟨v,av,by simp [Instr.field,run_underlying hu,hfl,asAgg,hr],hv',h⟩
     ·cases hf
    ·exact eY
 ·exact eY
end Go.Vx
end
section
namespace Go.Vx
open Go.RowKit
def ZJ (d:Option TypeDesc):Bool:=match d with | some (.interface _)=>true | _=>false
def S4:Option TypeDesc→Option Nat
 | some (.int _)=>some 0
 | some .bool=>some 1
 | some .string=>some 2
 | _=>none
def LC (P:Program):Nat→List Field→Option (List Nat)
 | _,[]=>some []
 | o,f::r=>if f.offset=o∧f.name ≠ "_" then match S4 (P.underlying f.type),LC P (o+1) r with
   | some k,some l=>some (k::l)
   | _,_=>none
   else none
def eqT (P:Program)(T:TypeId):Option (List Nat):=match P.underlying T with
 | some (.struct fs)=>if P.stoodInHeld T=false∧P.eqGuardType P.depth T=false then LC P 0 fs.toList else none
 | _=>none
def Vo:Nat→AV→AV→Option Bool
 | 0,.val (.int k x),.val (.int k' y)=>if k=k' then some (decide (x=y)) else none
 | 1,.val (.bool x),.val (.bool y)=>some (decide (x=y))
 | 2,.val (.string x),.val (.string y)=>some (decide (x=y))
 | _,_,_=>none
def W7:List Nat→List AV→List AV→Option Bool
 | [],[],[]=>some true
 | k::l,a::r,b::s=>match Vo k a b,W7 l r s with
   | some x,some y=>some (x&&y)
   | _,_=>none
 | _,_,_=>none
def Sa (o:Option (List Nat))(xs ys:List AV):Option Bool:=match o with | some l=>W7 l xs ys | none=>none
def Ym (P:Program)(op:BinOp)(T:TypeId)(x y:AV)(yc:Bool):Option AV :=
 match op,x,y with
 | .add,.val (.int k a),.val (.int k' b)=>if k=k' then some (.val (.int k (k.wrap (a+b)))) else none
 | .sub,.val (.int k a),.val (.int k' b)=>if k=k' then some (.val (.int k (k.wrap (a-b)))) else none
 | .mul,.val (.int k a),.val (.int k' b)=>if k=k' then some (.val (.int k (k.wrap (a * b)))) else none
 | .quo,.val (.int k a),.val (.int k' b)=>if k=k'∧b≠0 then some (.val (.int k (k.wrap (a.tdiv b)))) else none
 | .rem,.val (.int k a),.val (.int k' b)=>if k=k'∧b≠0 then some (.val (.int k (a.tmod b))) else none
 | .and,.val (.int k a),.val (.int k' b)=>if k=k' then some (.val (.int k (k.wrap (BitVec.ofInt k.bits a &&& BitVec.ofInt k.bits b).toNat))) else none
 | .xor,.val (.int k a),.val (.int k' b)=>if k=k' then some (.val (.int k (k.wrap (BitVec.ofInt k.bits a ^^^ BitVec.ofInt k.bits b).toNat))) else none
 | .or,.val (.int k a),.val (.int k' b)=>if k=k' then some (.val (.int k (k.wrap (BitVec.ofInt k.bits a ||| BitVec.ofInt k.bits b).toNat))) else none
 | .shl,.val (.int k a),.val (.int _ b)=>if 0≤b then some (.val (.int k (k.wrap (a * 2 ^ min b.toNat k.bits)))) else none
 | .shr,.val (.int k a),.val (.int _ b)=>if 0≤b then some (.val (.int k (a.fdiv (2 ^ min b.toNat k.bits)))) else none
 | .lss,.val (.int k a),.val (.int k' b)=>if k=k' then some (.val (.bool (decide (a<b)))) else none
 | .leq,.val (.int k a),.val (.int k' b)=>if k=k' then some (.val (.bool (decide (a≤b)))) else none
 | .gtr,.val (.int k a),.val (.int k' b)=>if k=k' then some (.val (.bool (decide (b<a)))) else none
 | .geq,.val (.int k a),.val (.int k' b)=>if k=k' then some (.val (.bool (decide (b≤a)))) else none
 | .eql,.val (.int k a),.val (.int k' b)=>if k=k' then some (.val (.bool (decide (a=b)))) else none
 | .neq,.val (.int k a),.val (.int k' b)=>if k=k' then some (.val (.bool (!decide (a=b)))) else none
 | .add,.val (.string a),.val (.string b)=>if a.size+b.size≤lim then some (.val (.string (a++b))) else none
 | .eql,.val (.string a),.val (.string b)=>some (.val (.bool (decide (a=b))))
 | .neq,.val (.string a),.val (.string b)=>some (.val (.bool (!decide (a=b))))
 | .lss,.val (.string a),.val (.string b)=>some (.val (.bool (Op.bytesLess a.data.toList b.data.toList)))
 | .gtr,.val (.string a),.val (.string b)=>some (.val (.bool (!(Op.bytesLess a.data.toList b.data.toList || decide (a=b)))))
 | .eql,.val (.bool a),.val (.bool b)=>if P.underlying T matches some .bool then some (.val (.bool (decide (a=b)))) else none
 | .neq,.val (.bool a),.val (.bool b)=>if P.underlying T matches some .bool then some (.val (.bool (!decide (a=b)))) else none
 | .eql,.val .nilIface,.val .nilIface=>if yc&&ZJ (P.underlying T) then some (.val (.bool true)) else none
 | .neq,.val .nilIface,.val .nilIface=>if yc&&ZJ (P.underlying T) then some (.val (.bool false)) else none
 | .eql,.val (.iface _ _),.val .nilIface=>if ZJ (P.underlying T) then some (.val (.bool false)) else none
 | .neq,.val (.iface _ _),.val .nilIface=>if ZJ (P.underlying T) then some (.val (.bool true)) else none
 | .eql,.agg xs,.agg ys=>(Sa (eqT P T) xs ys).map fun b=>.val (.bool b)
 | .neq,.agg xs,.agg ys=>(Sa (eqT P T) xs ys).map fun b=>.val (.bool (!b))
 | _,_,_=>none
theorem VM (a b:ByteArray):(a.toList == b.toList)=decide (a=b):=by
 rw [Bool.eq_iff_iff]
 simp only [beq_iff_eq,decide_eq_true_eq,ByteArray.toList_eq]
 constructor
 ·intro h
  apply ByteArray.ext
  exact Array.toList_inj.1 h
 ·rintro rfl;rfl
theorem Uq {P:Program}{T:TypeId}{w:World}{a b:Bool}(hu:P.underlying T=some .bool):(Op.equal T (.bool a) (.bool b)).run P w=.ok (decide (a=b)) w:=by
 unfold Op.equal Op.maxDepth
 rw [show (10000:Nat)=9999+1 from rfl,Op.equalIn]
 refine il ?_
 cases a<;>cases b<;>rfl
theorem U9 {P:Program}{T:TypeId}{w:World}{ms:Array (String×TypeId)}(hu:P.underlying T=some (.interface ms)):(Op.equal T .nilIface .nilIface).run P w=.ok true w:=by
 unfold Op.equal Op.maxDepth
 rw [show (10000:Nat)=9999+1 from rfl,Op.equalIn]
 refine il ?_
 rfl
theorem V6 {P:Program}{T:TypeId}{w:World}{ms:Array (String×TypeId)}{t:TypeId}{v:Value}(hu:P.underlying T=some (.interface ms)):(Op.equal T (.iface t v) .nilIface).run P w=.ok false w:=by
 unfold Op.equal Op.maxDepth
 rw [show (10000:Nat)=9999+1 from rfl,Op.equalIn]
 refine il ?_
 rfl
theorem S9 {P:Program}{op:BinOp}{T:TypeId}{x y:Operand}{w:World}(h:(y matches .const _)=true):(eqGuard op T x y .nilIface .nilIface).run P w=.ok () w:=by
 cases y with
 | const v=>unfold eqGuard;simp
 | _=>simp at h
theorem RD {P:Program}{T:TypeId}(h:ZJ (P.underlying T)=true):∃ ms,P.underlying T=some (.interface ms):=by
 unfold ZJ at h
 split at h
 ·exact ⟨_,‹_›⟩
 ·cases h
theorem Vl {P:Program}{e:TypeId}{k:Nat}{w:World}(he:S4 (P.underlying e)=some k){xs:Array Value}{off:Nat}{v:Value}(hx:xs[off]?=some v):(part e xs off).run P w=.ok v w:=by
 have:(isAgg e).run P w=.ok false w:=by
  unfold S4 at he
  split at he
  ·rename_i h;simp [isAgg,Sem.run_bind,run_underlying h]
  ·rename_i h;simp [isAgg,Sem.run_bind,run_underlying h]
  ·rename_i h;simp [isAgg,Sem.run_bind,run_underlying h]
  ·cases he
 simp [part,this,hx]
theorem LN {P:Program}{T:TypeId}{k d:Nat}{w:World}{L:Nat→Nat→Prop}{x y:AV}{a b:Value}{r:Bool}(hk:S4 (P.underlying T)=some k)(h:Vo k x y=some r)(hx:V L w x a)(hy:V L w y b):(Op.equalIn (d+1) T a b).run P w=.ok r w:=by
 unfold Vo at h
 split at h
 ·cases hx;cases hy
  split at h
  ·rename_i e;subst e;injection h with h;subst h
   unfold S4 at hk
   split at hk
   ·rename_i hu;rw [run_equalIn_int w d T _ _ _ _ hu];congr 1
   ·cases hk
   ·cases hk
   ·cases hk
  ·cases h
 ·cases hx;cases hy;injection h with h;subst h
  unfold S4 at hk
  split at hk
  ·cases hk
  ·rename_i hu;rw [run_equalIn_bool' w d T _ _ hu];congr 1
  ·cases hk
  ·cases hk
 ·cases hx;cases hy;injection h with h;subst h
  unfold S4 at hk
  split at hk
  ·cases hk
  ·cases hk
  ·rename_i hu;rw [run_equalIn_string w d T _ _ hu,VM]
  ·cases hk
 ·cases h
theorem Jt {P:Program}{d:Nat}{w:World}{L:Nat→Nat→Prop}{vs us:Array Value}:∀ (fs:List Field) (o:Nat) (tags:List Nat) (xs ys:List AV) (r:Bool),LC P o fs=some tags→W7 tags xs ys=some r →
 (∀ (i:Nat) (c:AV),xs[i]?=some c→∃ v,vs[o+i]?=some v∧V L w c v)→(∀ (i:Nat) (c:AV),ys[i]?=some c→∃ v,us[o+i]?=some v∧V L w c v) →
 (Op.eqFields (d+1) vs us fs).run P w=.ok r w
 | [],o,tags,xs,ys,r,ht,h,_,_=>by
   simp only [LC,Option.some.injEq] at ht;subst ht
   unfold W7 at h
   split at h
   ·injection h with h;subst h;rfl
   ·rename_i e _ _;cases e
   ·cases h
 | f::fs,o,tags,xs,ys,r,ht,h,hx,hy=>by
   simp only [LC] at ht
   split at ht
   ·rename_i hf
    split at ht
    ·rename_i k l hk hl
     injection ht with ht;subst ht
     match xs,ys,h,hx,hy with
     | a::xr,b::yr,h,hx,hy =>
       simp only [W7] at h
       split at h
       ·rename_i x y hc hr
        injection h with h;subst h
        obtain ⟨va,ha,hva⟩:=hx 0 a rfl
        obtain ⟨vb,hb,hvb⟩:=hy 0 b rfl
        have ih:=Jt (d:=d) fs (o+1) l xr yr y hl hr (fun i c hi=>by have:=hx (i+1) c (by simpa using hi);rwa [show o+1+i=o+(i+1) by omega]) (fun i c hi=>by have:=hy (i+1) c (by simpa using hi);rwa [show o+1+i=o+(i+1) by omega])
        rw [Op.eqFields,if_pos hf.2]
        simp only [Sem.run_bind,hf.1]
        rw [Vl hk (by simpa using ha)]
        simp only [Result.andThen_ok]
        rw [Vl hk (by simpa using hb)]
        simp only [Result.andThen_ok]
        rw [LN hk hc hva hvb]
        simp only [Result.andThen_ok]
        cases x with
        | false=>simp
        | true=>simpa using ih
       ·cases h
     | [],_,h,_,_=>simp [W7] at h
     | _::_,[],h,_,_=>simp [W7] at h
    ·cases ht
   ·cases ht
theorem Sm {P:Program}{op:BinOp}{T:TypeId}{x y:Operand}{w:World}{L:Nat→Nat→Prop}{xs ys:List AV}{a b:Value}{r:Bool}(h:Sa (eqT P T) xs ys=some r)(hx:V L w (.agg xs) a)(hy:V L w (.agg ys) b) :
 ∃ vs us,a=.agg vs∧b=.agg us∧(eqGuard op T x y (.agg vs) (.agg us)).run P w=.ok () w∧(Op.equalIn 10000 T (.agg vs) (.agg us)).run P w=.ok r w:=by
 unfold Sa eqT at h
 cases hx with
 | agg _ vs hl hv =>
 cases hy with
 | agg _ us hl2 hu =>
 split at h
 ·rename_i l he
  split at he
  ·rename_i fs hT
   split at he
   ·rename_i hc
    have hft:P.fieldsOf T=fs:=by unfold Program.fieldsOf;rw [hT]
    refine ⟨_,_,rfl,rfl,run_eqGuard_agg w op T x y _ _ hc.2,?_⟩
    rw [show (10000:Nat)=9999+1 from rfl,run_equalIn_struct w 9999 T _ _ (by rw [hft];exact hT) hc.1,hft]
    refine Jt (L:=L) fs.toList 0 l xs ys r he h (fun i c hi=>?_) (fun i c hi=>?_)
    ·have:i<vs.length:=by rw [← hl];exact (List.getElem?_eq_some_iff.1 hi).1
     exact ⟨vs[i],by simp [this],hv i c _ hi (List.getElem?_eq_getElem this)⟩
    ·have:i<us.length:=by rw [← hl2];exact (List.getElem?_eq_some_iff.1 hi).1
     exact ⟨us[i],by simp [this],hu i c _ hi (List.getElem?_eq_getElem this)⟩
   ·cases he
  ·cases he
 ·cases h
theorem K2 {P:Program}{op:BinOp}{T:TypeId}{x y:Operand}{ax ay r:AV}{a b:Value}{L:Nat→Nat→Prop}{w:World}{yc:Bool}(h:Ym P op T ax ay yc=some r)(hyc:yc=true→(y matches .const _)=true)
 (hx:V L w ax a) (hy:V L w ay b):∃ v,(do eqGuard op T x y a b;binOp op T a b).run P w=.ok v w∧V L w r v:=by
 unfold Ym at h
 split at h
 case h_30=>cases h
 case h_1=>cases hx;cases hy;split at h<;>simp at h;subst h;rename_i e;subst e;exact ⟨_,by simp [eqGuard,binOp,Op.intArith],.val _⟩
 case h_2=>cases hx;cases hy;split at h<;>simp at h;subst h;rename_i e;subst e;exact ⟨_,by simp [eqGuard,binOp,Op.intArith],.val _⟩
 case h_3=>cases hx;cases hy;split at h<;>simp at h;subst h;rename_i e;subst e;exact ⟨_,by simp [eqGuard,binOp,Op.intArith],.val _⟩
 case h_4=>cases hx;cases hy;split at h<;>simp at h;subst h;rename_i e;obtain ⟨e,e2⟩:=e;subst e;exact ⟨_,by simp [eqGuard,binOp,Op.intDiv,e2],.val _⟩
 case h_5=>cases hx;cases hy;split at h<;>simp at h;subst h;rename_i e;obtain ⟨e,e2⟩:=e;subst e;exact ⟨_,by simp [eqGuard,binOp,Op.intDiv,e2],.val _⟩
 case h_6=>cases hx;cases hy;split at h<;>simp at h;subst h;rename_i e;subst e;exact ⟨_,by simp [eqGuard,binOp,Op.intBits],.val _⟩
 case h_7=>cases hx;cases hy;split at h<;>simp at h;subst h;rename_i e;subst e;exact ⟨_,by simp [eqGuard,binOp,Op.intBits],.val _⟩
 case h_8=>cases hx;cases hy;split at h<;>simp at h;subst h;rename_i e;subst e;exact ⟨_,by simp [eqGuard,binOp,Op.intBits],.val _⟩
 case h_9=>cases hx;cases hy;split at h<;>simp at h;subst h;rename_i e;have e':=Int.not_lt.2 e;exact ⟨_,by simp [eqGuard,binOp,Op.shift,e'],.val _⟩
 case h_10=>cases hx;cases hy;split at h<;>simp at h;subst h;rename_i e;have e':=Int.not_lt.2 e;exact ⟨_,by simp [eqGuard,binOp,Op.shift,e'],.val _⟩
 case h_11=>cases hx;cases hy;split at h<;>simp at h;subst h;rename_i e;subst e;exact ⟨_,by simp [eqGuard,binOp,Op.intCmp],.val _⟩
 case h_12=>cases hx;cases hy;split at h<;>simp at h;subst h;rename_i e;subst e;exact ⟨_,by simp [eqGuard,binOp,Op.intCmp],.val _⟩
 case h_13=>cases hx;cases hy;split at h<;>simp at h;subst h;rename_i e;subst e;exact ⟨_,by simp [eqGuard,binOp,Op.intCmp],.val _⟩
 case h_14=>cases hx;cases hy;split at h<;>simp at h;subst h;rename_i e;subst e;exact ⟨_,by simp [eqGuard,binOp,Op.intCmp],.val _⟩
 case h_15=>cases hx;cases hy;split at h<;>simp at h;subst h;rename_i e;subst e;exact ⟨_,by simp [eqGuard,binOp,Op.intCmp];rfl,.val _⟩
 case h_16=>cases hx;cases hy;split at h<;>simp at h;subst h;rename_i e;subst e;exact ⟨_,by simp [eqGuard,binOp,Op.intCmp];rfl,.val _⟩
 case h_17 =>
  cases hx;cases hy;split at h<;>simp at h;subst h;rename_i s1 s2 e
  have e2:¬ (((s1.size+s2.size:Nat):Int) > IntKind.i64.max):=by have:IntKind.i64.max=9223372036854775807:=rfl;simp only [lim] at e;omega
  exact ⟨_,by simp only [eqGuard,binOp,Op.stringOp];simp only [Sem.run_bind,Result.andThen_ok];rw [if_neg e2];rfl,.val _⟩
 case h_18=>cases hx;cases hy;simp at h;subst h;exact ⟨_,by simp [eqGuard,binOp,Op.stringOp,VM],.val _⟩
 case h_19=>cases hx;cases hy;simp at h;subst h;exact ⟨_,by simp [eqGuard,binOp,Op.stringOp,VM],.val _⟩
 case h_20=>cases hx;cases hy;simp at h;subst h;exact ⟨_,by simp [eqGuard,binOp,Op.stringOp,ByteArray.toList_eq],.val _⟩
 case h_21=>cases hx;cases hy;simp at h;subst h;exact ⟨_,by simp only [eqGuard,binOp,Op.stringOp,VM,Sem.run_bind];simp [ByteArray.toList_eq],.val _⟩
 case h_22=>cases hx;cases hy;split at h<;>simp at h;subst h;rename_i e;exact ⟨_,by simp only [eqGuard,binOp,Sem.run_bind,Uq e];rfl,.val _⟩
 case h_23=>cases hx;cases hy;split at h<;>simp at h;subst h;rename_i e;exact ⟨_,by simp only [eqGuard,binOp,Sem.run_bind,Uq e];rfl,.val _⟩
 case h_24 =>
  cases hx;cases hy;split at h<;>simp at h;subst h;rename_i e
  simp only [Bool.and_eq_true] at e
  obtain ⟨ms,hu⟩:=RD e.2
  exact ⟨_,by rw [Sem.run_bind,S9 (hyc e.1),Result.andThen_ok];simp only [binOp,Sem.run_bind,U9 hu];rfl,.val _⟩
 case h_25 =>
  cases hx;cases hy;split at h<;>simp at h;subst h;rename_i e
  simp only [Bool.and_eq_true] at e
  obtain ⟨ms,hu⟩:=RD e.2
  exact ⟨_,by rw [Sem.run_bind,S9 (hyc e.1),Result.andThen_ok];simp only [binOp,Sem.run_bind,U9 hu];rfl,.val _⟩
 case h_26 =>
  cases hx;cases hy;split at h<;>simp at h;subst h;rename_i e
  obtain ⟨ms,hu⟩:=RD e;exact ⟨_,by simp only [eqGuard,binOp,Sem.run_bind,V6 hu];rfl,.val _⟩
 case h_27 =>
  cases hx;cases hy;split at h<;>simp at h;subst h;rename_i e
  obtain ⟨ms,hu⟩:=RD e;exact ⟨_,by simp only [eqGuard,binOp,Sem.run_bind,V6 hu];rfl,.val _⟩
 case h_28 =>
  rw [Option.map_eq_some_iff] at h
  obtain ⟨r,hr,rfl⟩:=h
  obtain ⟨vs,us,rfl,rfl,h1,h2⟩:=Sm (op:=.eql) (x:=x) (y:=y) hr hx hy
  exact ⟨_,by rw [Sem.run_bind,h1,Result.andThen_ok,run_eql_struct,h2];rfl,.val _⟩
 case h_29 =>
  rw [Option.map_eq_some_iff] at h
  obtain ⟨r,hr,rfl⟩:=h
  obtain ⟨vs,us,rfl,rfl,h1,h2⟩:=Sm (op:=.neq) (x:=x) (y:=y) hr hx hy
  exact ⟨_,by rw [Sem.run_bind,h1,Result.andThen_ok,run_neq_struct,h2];rfl,.val _⟩
end Go.Vx
end
section
namespace Go.Vx
open Go.RowKit
theorem PN {L:Nat→Nat→Prop}{w:World}:∀ (cs:List AV) (vs xs:List Value),cV cs=some vs→cs.length=xs.length →
 (∀ (i:Nat) (c:AV) (x:Value),cs[i]?=some c→xs[i]?=some x→V L w c x)→xs=vs:=by
 intro cs
 induction cs with
 | nil=>intro vs xs h hl _;simp [cV] at h;subst h;simpa using hl.symm
 | cons c r ih =>
   intro vs xs h hl hv
   cases xs with
   | nil=>simp at hl
   | cons x xr =>
     cases c<;>simp only [cV] at h<;>try (cases h;done)
     rename_i v
     split at h
     ·rename_i vr hr
      injection h with h
      subst h
      have:=hv 0 (.val v) x rfl rfl
      cases this
      rw [ih vr xr hr (by simpa using hl) (fun i c y hc hy=>hv (i+1) c y (by simpa using hc) (by simpa using hy))]
     ·cases h
theorem Ui {L:Nat→Nat→Prop}{w:World}{a:AV}{v x:Value}(h:a.toVal=some v)(hv:V L w a x):x=v:=by
 cases hv with
 | val y=>simp [AV.toVal] at h;exact h
 | agg cs vs hl hh =>
   simp only [AV.toVal] at h
   split at h
   ·rename_i ys hy
    injection h with h
    subst h
    rw [PN cs ys vs hy hl hh]
   ·cases h
 | _=>simp [AV.toVal] at h
def Tf (P:Program)(src dst:TypeId)(x:AV)(K:AV→Prop):Prop :=
 match x,P.underlying src,P.underlying dst with
 | .val (.int _ n),some _,some (.int k)=>K (.val (.int k (k.wrap n)))
 | _,_,_=>False
theorem Le {P:Program}{src dst:TypeId}{x:AV}{K:AV→Prop}{L:Nat→Nat→Prop}{w:World}{v:Value}(h:Tf P src dst x K)(hx:V L w x v) :
 ∃ y av,(convert src dst v).run P w=.ok y w∧V L w av y∧K av:=by
 unfold Tf at h
 split at h
 ·rename_i k' n d k hs hd
  cases hx
  exact ⟨_,_,by simp [convert,run_underlying hs,run_underlying hd,Conv.intToInt],.val _,h⟩
 ·exact eY
def aun (op:UnOp)(x:AV)(K:AV→Prop):Prop :=
 match op,x with
 | .not,.val (.bool b)=>K (.val (.bool (!b)))
 | .neg,.val (.int k n)=>K (.val (.int k (k.wrap (0-n))))
 | _,_=>False
theorem Hz {P:Program}{op:UnOp}{x:AV}{K:AV→Prop}{L:Nat→Nat→Prop}{w:World}{v:Value}(h:aun op x K)(hx:V L w x v) :
 ∃ y av,(Op.unary op v).run P w=.ok y w∧V L w av y∧K av:=by
 unfold aun at h
 split at h
 ·cases hx;exact ⟨_,_,rfl,.val _,h⟩
 ·cases hx;exact ⟨_,_,rfl,.val _,h⟩
 ·exact eY
def V1 (P:Program)(T:TypeId)(x:AV)(K:AV→Prop):Prop :=
 (P.underlying T).isSome=true∧ZJ (P.underlying T)=false∧match x.toVal with
  | some v=>K (.val (.iface T v))
  | none=>False
theorem NF {P:Program}{T:TypeId}{x:AV}{K:AV→Prop}{L:Nat→Nat→Prop}{w:World}{v:Value}(h:V1 P T x K)(hx:V L w x v) :
 ∃ y av,(Instr.makeInterface T v).run P w=.ok y w∧V L w av y∧K av:=by
 obtain ⟨h1,h2,h⟩:=h
 obtain ⟨d,hd⟩:=Option.isSome_iff_exists.1 h1
 split at h
 ·rename_i v' hv
  have:=Ui hv hx
  subst this
  refine ⟨_,_,?_,.val _,h⟩
  rw [hd] at h2
  simp only [Instr.makeInterface,Sem.run_bind,run_underlying hd,Result.andThen_ok]
  cases d<;>first | rfl | simp [ZJ] at h2
 ·exact eY
def Sc (P:Program)(x:AV)(T:TypeId)(ok:Bool)(K:AV→Prop):Prop :=
 (P.underlying T).isSome=true∧ZJ (P.underlying T)=false∧match x,ok with
  | .val (.iface t v),true=>if t=T then K (.tup [cW v,.val (.bool true)]) else match Zl P T with
    | some z=>K (.tup [cW z,.val (.bool false)])
    | none=>False
  | .val (.iface t v),false=>t=T∧K (cW v)
  | _,_=>False
theorem V.tup2 {L:Nat→Nat→Prop}{w:World}{a b:AV}{x y:Value}(ha:V L w a x)(hb:V L w b y):V L w (.tup [a,b]) (.tuple #[x,y]) :=
 .tup [a,b] [x,y] rfl (fun i c v hc hv=>by
  match i with
  | 0=>simp at hc hv;subst hc;subst hv;exact ha
  | 1=>simp at hc hv;subst hc;subst hv;exact hb
  | i+2=>simp at hc)
theorem PH {P:Program}{T xT:TypeId}{x:AV}{ok:Bool}{K:AV→Prop}{L:Nat→Nat→Prop}{w:World}{v:Value}(h:Sc P x T ok K)(hx:V L w x v) :
 ∃ y av,(Instr.typeAssert v xT T ok).run P w=.ok y w∧V L w av y∧K av:=by
 obtain ⟨h1,h2,h⟩:=h
 obtain ⟨d,hd⟩:=Option.isSome_iff_exists.1 h1
 rw [hd] at h2
 split at h
 ·rename_i t v'
  cases hx
  split at h
  ·rename_i e
   subst e
   refine ⟨_,_,?_,V.tup2 (dD _ _ v') (.val _),h⟩
   refine iu ?_
   cases d<;>first | (simp [ZJ] at h2;done) | (simp)
  ·rename_i e
   split at h
   ·rename_i z hz
    refine ⟨_,_,?_,V.tup2 (dD _ _ z) (.val _),h⟩
    refine iu ?_
    cases d<;>first | (simp [ZJ] at h2;done) | (simp [e,WL hz])
   ·exact eY
 ·rename_i t v'
  cases hx
  obtain ⟨e,h⟩:=h
  subst e
  refine ⟨_,_,?_,dD _ _ v',h⟩
  refine iu ?_
  cases d<;>first | (simp [ZJ] at h2;done) | (simp)
 ·exact eY
def XO (x:AV)(i:Nat)(K:AV→Prop):Prop :=
 match x with
 | .tup vs=>match vs[i]? with
   | some v=>K v
   | none=>False
 | _=>False
theorem Q8 {P:Program}{x:AV}{i:Nat}{K:AV→Prop}{L:Nat→Nat→Prop}{w:World}{v:Value}(h:XO x i K)(hx:V L w x v) :
 ∃ y av,(Instr.extract v i).run P w=.ok y w∧V L w av y∧K av:=by
 unfold XO at h
 split at h
 ·cases hx with
  | tup cs vs hl hv =>
    split at h
    ·rename_i av ha
     have hlt:i<vs.length:=by have:=(List.getElem?_eq_some_iff.1 ha).1;omega
     exact ⟨vs[i],av,by simp [Instr.extract,hlt],hv i av _ ha (List.getElem?_eq_getElem hlt),h⟩
    ·exact eY
 ·exact eY
def Yx (P:Program)(t:TypeId):Option (List (Nat×Nat)) :=
 match P.underlying t with
 | some (.struct fields)=>fields.toList.mapM fun f=>(P.info? f.type).map fun i=>(f.offset,i.size)
 | some (.array n e)=>(P.info? e).map fun ie=>(List.range n).map fun i=>(i * ie.size,ie.size)
 | _=>none
def V9 (place:Nat→Option (Nat×Nat))(cells:List AV):List (Nat×AV)→Option (List AV)
 | []=>some cells
 | (i,a)::r=>match place i,a.cells with
   | some (off,size),some cs=>if cs.length=size∧off+size≤cells.length then V9 place (Yu cells off cs) r else none
   | _,_=>none
theorem Om (off:Nat):∀ (vs:List Value) (k:Nat) (cells:List Value),off+k+vs.length≤cells.length →
 ((vs.zipIdx k).foldl (fun cs (p:Value×Nat)=>cs.setIfInBounds (off+p.2) p.1) cells.toArray).toList=cells.take (off+k)++(vs++cells.drop (off+k+vs.length)):=by
 intro vs
 induction vs with
 | nil=>intro k cells h;simp
 | cons v r ih =>
   intro k cells h
   simp only [List.length_cons] at h
   simp only [List.zipIdx_cons,List.foldl_cons]
   rw [show cells.toArray.setIfInBounds (off+k) v=(cells.set (off+k) v).toArray from by simp]
   rw [ih (k+1) (cells.set (off+k) v) (by simp;omega)]
   have ho:off+k<cells.length:=by omega
   rw [show off+(k+1)=off+k+1 from by omega,List.take_set,List.drop_set_of_lt (by omega),List.take_succ_eq_append_getElem ho,List.set_append_right _ _ (by rw [List.length_take];omega)]
   simp only [List.length_take,Nat.min_eq_left (Nat.le_of_lt ho),Nat.sub_self,List.set_cons_zero,List.length_cons,List.append_assoc,List.singleton_append,List.cons_append]
   rw [show off+k+1+r.length=off+k+(r.length+1) from by omega]
   rfl
theorem Rh {L:Nat→Nat→Prop}{w:World}{place:Nat→Option (Nat×Nat)}:∀ (ps:List (Nat×AV)) (qs:List (Nat×Value)) (cells out:List AV) (vs:List Value),V9 place cells ps=some out →
 ps.map (·.1)=qs.map (·.1)→(∀ (i:Nat) (p:Nat×AV) (q:Nat×Value),ps[i]?=some p→qs[i]?=some q→V L w p.2 q.2) →
 cells.length=vs.length→(∀ (i:Nat) (c:AV) (x:Value),cells[i]?=some c→vs[i]?=some x→V L w c x) →
 ∃ ys:List Value,Instr.fill place vs.toArray qs=some ys.toArray∧out.length=ys.length∧∀ (i:Nat) (c:AV) (x:Value),out[i]?=some c→ys[i]?=some x→V L w c x:=by
 intro ps
 induction ps with
 | nil =>
   intro qs cells out vs h hk _ hl hv
   simp [V9] at h
   subst h
   have:qs=[]:=by simpa using hk.symm
   subst this
   exact ⟨vs,rfl,hl,hv⟩
 | cons p r ih =>
   intro qs cells out vs h hk hq hl hv
   obtain ⟨i,a⟩:=p
   cases qs with
   | nil=>simp at hk
   | cons q qr =>
     obtain ⟨i',v⟩:=q
     simp only [List.map_cons,List.cons.injEq] at hk
     obtain ⟨rfl,hk⟩:=hk
     simp only [V9] at h
     split at h
     ·rename_i off size cs hp hc
      split at h
      ·rename_i hsz
       obtain ⟨c1,c2⟩:=(hq 0 (i,a) (i,v) rfl rfl).cells_of hc
       simp only at c1 c2
       have hin:off+cs.length≤cells.length:=by omega
       obtain ⟨ys,hf,hy1,hy2⟩:=ih qr (Yu cells off cs) out (vs.take off++(v.cells.toList++vs.drop (off+v.cells.toList.length))) h hk
        (fun j p q hp hq'=>hq (j+1) p q (by simpa using hp) (by simpa using hq')) (by simp only [Yu,List.length_append,List.length_take,List.length_drop];omega) (fun j c x hcj hxj=>by
         rcases RW hin j c hcj with ⟨a1,a2,a3⟩ | ⟨a1,a3⟩<;>rcases SV (cs:=vs) (vs:=v.cells.toList) (o:=off) (by omega) j x hxj with ⟨b1,b2,b3⟩ | ⟨b1,b3⟩
         ·exact c2 _ c x a3 b3
         ·omega
         ·omega
         ·exact hv j c x a3 b3)
       refine ⟨ys,?_,hy1,hy2⟩
       have hs:v.cells.size=cs.length:=by simpa using c1
       simp only [Instr.fill,hp]
       rw [if_neg (by simp only [List.size_toArray,Bool.or_eq_true,decide_eq_true_eq,not_or,ne_eq,decide_not,Bool.not_eq_true',decide_eq_false_iff_not,Classical.not_not];omega)]
       have:=Om off v.cells.toList 0 vs (by simp;omega)
       simp only [Nat.add_zero] at this
       rw [← hf]
       congr 1
       apply Array.toList_inj.1
       rw [← this,← Array.foldl_toList]
       simp
      ·cases h
     ·cases h
def YL (z:Value):List AV:=z.cells.toList.map cM
theorem PJ {L:Nat→Nat→Prop}{w:World}(z:Value):(YL z).length=z.cells.toList.length∧∀ (i:Nat) (c:AV) (x:Value),(YL z)[i]?=some c→z.cells.toList[i]?=some x→V L w c x:=by
 refine ⟨by simp [YL],fun i c x hc hx=>?_⟩
 simp only [YL,List.getElem?_map,Option.map_eq_some_iff] at hc
 obtain ⟨y,hy,rfl⟩:=hc
 rw [hx] at hy
 injection hy with hy
 subst hy
 exact dx _ _ _
theorem Q7 {p p':Nat→Option (Nat×Nat)}(h:∀ i x,p i=some x→p' i=some x):∀ (ps:List (Nat×AV)) (cells cs:List AV),V9 p cells ps=some cs→V9 p' cells ps=some cs
 | [],_,_,e=>e
 | (i,a)::r,cells,cs,e=>by
   simp only [V9] at e ⊢
   split at e
   ·rename_i off size cc hp hc
    rw [h i _ hp,hc]
    simp only
    split at e
    ·rename_i hcond
     rw [if_pos hcond]
     exact Q7 h r _ cs e
    ·cases e
   ·cases e
def Vq (P:Program)(t:TypeId)(ps:List (Nat×AV))(K:AV→Prop):Prop :=
 match Zl P t,Yx P t with
 | some z,some pl=>match V9 (fun i=>pl[i]?) (YL z) ps with
   | some cs=>K (.agg cs)
   | none=>False
 | _,_=>False
theorem NJ {P:Program}{t:TypeId}{ps:List (Nat×AV)}{qs:Array (Nat×Value)}{K:AV→Prop}{L:Nat→Nat→Prop}{w:World}(h:Vq P t ps K)
 (hk:ps.map (·.1)=qs.toList.map (·.1)) (hq:∀ (i:Nat) (p:Nat×AV) (q:Nat×Value),ps[i]?=some p→qs.toList[i]?=some q→V L w p.2 q.2) :
 ∃ y av,(Instr.build t qs).run P w=.ok y w∧V L w av y∧K av:=by
 unfold Vq at h
 split at h
 ·rename_i z pl hz hp
  split at h
  ·rename_i cs hc
   obtain ⟨z1,z2⟩:=PJ (L:=L) (w:=w) z
   unfold Yx at hp
   unfold Zl at hz
   simp only [Option.bind_eq_some_iff] at hz
   obtain ⟨it,hit,hz⟩:=hz
   split at hp
   ·rename_i fields hu
    obtain ⟨ys,hf,hy1,hy2⟩:=Rh ps qs.toList (YL z) cs z.cells.toList hc hk hq z1 z2
    refine ⟨_,_,run_build w t qs ys.toArray ?_,.agg cs ys hy1 hy2,h⟩
    unfold Program.built
    simp only [hit,hu,hz,hp]
    simpa using hf
   ·rename_i n e hu
    rw [Option.map_eq_some_iff] at hp
    obtain ⟨ie,hie,rfl⟩:=hp
    have hc':=Q7 (p':=fun i=>some (i * ie.size,ie.size)) (fun i x hx=>by
     simp only [List.getElem?_map,Option.map_eq_some_iff] at hx
     obtain ⟨j,hj,rfl⟩:=hx
     have:=(List.getElem?_eq_some_iff.1 hj).2
     rw [List.getElem_range] at this
     rw [this]) ps (YL z) cs hc
    obtain ⟨ys,hf,hy1,hy2⟩:=Rh ps qs.toList (YL z) cs z.cells.toList hc' hk hq z1 z2
    refine ⟨_,_,run_build w t qs ys.toArray ?_,.agg cs ys hy1 hy2,h⟩
    unfold Program.built
    simp only [hit,hu,hz,hie]
    simpa using hf
   ·cases hp
  ·exact eY
 ·exact eY
end Go.Vx
end
