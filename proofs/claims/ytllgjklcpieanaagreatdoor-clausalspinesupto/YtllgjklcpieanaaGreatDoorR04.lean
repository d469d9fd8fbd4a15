/- A part of the proof of clausalSpinesProved. -/
import Derived.Test.YtllgjklcpieanaaGreatDoorR03
import Derived.MapKept
import Derived.WideKeyRuns
import Derived.Laws.StructEq
import Derived.Maps.RangeRun
set_option linter.unusedVariables false
set_option linter.unusedSimpArgs false
section
namespace Go.Vx
open Go.RowKit
structure T1 {κ:Type} (P:Program) (kt:TypeId) (ke:κ->Value):Prop where
 inj:∀ a b,ke a=ke b->a=b
 check:∀ (e:Bool) (x:κ) (w:nH),(Instr.checkKey e 10000 kt (ke x)).run P w=.ok () w
 find:∀ (x:κ) (w:nH) (es:List MapEntry),(∀ e∈es,∃ y,e.key=ke y) ->
  ((Instr.findKey kt (ke x) es).run P w=.ok none w/\∀ e∈es,e.key≠ke x)\/∃ j e,(Instr.findKey kt (ke x) es).run P w=.ok (some (j,e.val)) w/\es[j]?=some e/\e.key=ke x
 same:∀ x,Instr.sameBits 10000 (ke x) (ke x)=true
theorem T1.ofKey{κ:Type}{P:nE}{kt:nF}{d:TypeDesc}{ke:κ->nG}(hd:P.underlying kt=some d)(hk:∀ x,MapKept.IsKey d (ke x))(hi:∀ a b,ke a=ke b->a=b)(hs:∀ x,Instr.sameBits 10000 (ke x) (ke x)=true):T1 P kt ke where
 inj:=hi
 check e x w:=MapKept.run_checkKey hd (hk x) e 9999
 find x w es h:=by
  rcases MapKept.findNow_spec (hk x) es 0 (fun e he=>by obtain⟨y,hy⟩:=h e he;rw[hy];exact hk y) with⟨h1,h2⟩|⟨j,e,h1,h2,h3⟩
  ·exact .inl ⟨MapKept.run_findKey hd h1,h2⟩
  ·exact .inr ⟨j,e,MapKept.run_findKey hd (by rw[h1];simp),h2,h3⟩
 same:=hs
abbrev keI (n:Int):nG:=.int .i64 n
abbrev keS (s:ByteArray):nG:=.string s
theorem QI{P:nE}{kt:nF}(h:P.underlying kt=some (.int .i64)):T1 P kt keI :=
 .ofKey h (fun x=>rfl) (fun a b e=>by injection e) (fun x=>by simp[Instr.sameBits])
theorem QH{P:nE}{kt:nF}(h:P.underlying kt=some .string):T1 P kt keS :=
 .ofKey h (fun x=>trivial) (fun a b e=>by injection e) (fun x=>by simp only[Instr.sameBits];exact(MapKept.bytes_beq x x).2 rfl)
section
variable {κ:Type} [DecidableEq κ]
def ZS(ke:κ->nG)(l:List (κ×AV×Nat)):List (nG×AV×Nat):=l.map fun e=>(ke e.1,e.2)
def T3(l:List (κ×AV×Nat))(x:κ)(v:AV)(c:Nat):List (κ×AV×Nat):=if x∈l.map (·.1) then l.map (fun e=>if e.1=x then(x,v,e.2.2) else e) else l++[(x,v,c)]
def T5(l:List (κ×AV×Nat))(x:κ)(c:Nat):Nat:=if x∈l.map (·.1) then c else c+1
def VL(l:List (κ×AV×Nat))(x:κ):nM AV:=(l.find? (fun e=>decide (e.1=x))).map (·.2.1)
end
theorem Qu{σ:Store}{w:nH}(hσ:Zq σ w){b:Nat}{x y:AObj}(hx:σ.get b=some x)(hl:∀ o,x.liveAt o)(hyl:y.liveAt=x.liveAt)(o:Obj)
 (hy:∀ w':nH,Ev σ w (σ.set b y) w'->w'.heap[b]?=some o->Wf (live (σ.set b y)) w' b y) :
 Zq (σ.set b y) { w with heap:=w.heap.setIfInBounds b o }/\Ev σ w (σ.set b y) { w with heap:=w.heap.setIfInBounds b o }:=by
 have hb:b<w.heap.size:=(hσ.obj b _ (ZU hx)).lt
 have hlv:=QD hσ.nodup hx hyl
 have hne:∀ b',b'≠b->({ w with heap:=w.heap.setIfInBounds b o }:nH).heap[b']?=w.heap[b']?:=fun b' h=>by simp[lw,iC h]
 have ev:Ev σ w (σ.set b y) { w with heap:=w.heap.setIfInBounds b o }:=Ev.turn (b:=b) (fun _ _ _ h=>by rw[hlv] at h;exact h) rfl rfl rfl xf hne (fun k hk=>absurd ⟨x,ZU hx,hl k⟩ hk) ⟨0,x,ZU hx,hl 0⟩ (kO _)
 exact⟨hσ.set hx ev hne (hy _ ev (by simp[hb])),ev⟩
def Um(P:nE)(t:nF)(m k v:AV)(σ:Store)(K:Store->Prop):Prop :=
 ∃ (κ:Type) (_:DecidableEq κ) (ke:κ->nG) (r c:Nat) (l:List (κ×AV×Nat)) (x:κ) (kt et:nF),P.underlying t=some (.map kt et)/\T1 P kt ke/\m=.val (.map (some r))/\k.toVal=some (ke x) /\
   σ.get r=some (.map (ZS ke l) c)/\K (σ.set r (.map (ZS ke (T3 l x v c)) (T5 l x c)))
theorem QZ{κ:Type}{ke:κ->nG}{l:List (κ×AV×Nat)}(i:Nat):(ZS ke l)[i]?=(l[i]?).map fun e=>(ke e.1,e.2):=by simp[ZS]
theorem Rn{κ:Type}(ke:κ->nG)(l:List (κ×AV×Nat)):(ZS ke l).map (·.1)=(l.map (·.1)).map ke:=by simp[ZS]
theorem Rp{κ:Type}(ke:κ->nG)(l:List (κ×AV×Nat)):(ZS ke l).map (·.2.2)=l.map (·.2.2):=by simp[ZS]
theorem K3{κ:Type}{ke:κ->nG}{l:List (κ×AV×Nat)}(h:((ZS ke l).map (·.1)).Nodup):(l.map (·.1)).Nodup:=by
 rw[Rn] at h
 exact List.Pairwise.of_map ke (fun a b hab e=>hab (by rw[e])) h
theorem On{κ:Type}{P:nE}{kt:nF}{ke:κ->nG}(hK:T1 P kt ke){l:List κ}(h:l.Nodup):(l.map ke).Nodup:=by
 rw[List.Nodup,List.pairwise_map]
 exact List.Pairwise.imp (fun hab e=>hab (hK.inj _ _ e)) h
theorem Ih{κ:Type}{ke:κ->nG}{σ:Store}{w:nH}(hσ:Zq σ w){r c:Nat}{l:List (κ×AV×Nat)}(hg:σ.get r=some (.map (ZS ke l) c)) :
 ∃ ms:List MapEntry,w.heap[r]?=some (.map ms.toArray c)/\ms.length=l.length/\(∀ (i:Nat) (e:κ×AV×Nat) (m:MapEntry),l[i]?=some e->ms[i]?=some m->m.key=ke e.1/\m.born=e.2.2/\V (live σ) w e.2.1 m.val)/\(l.map (·.1)).Nodup/\(l.map (·.2.2)).Nodup/\∀ e∈l,e.2.2<c:=by
 obtain⟨ms,h1,h2,h3,h4,h5,h6⟩:=hσ.obj r _ (ZU hg)
 refine⟨ms,h1,by rw[h2];simp[ZS],fun i e m he hm=>h3 i (ke e.1,e.2) m (by rw[QZ,he];rfl) hm,K3 h4,by rw[Rp] at h5;exact h5,fun e he=>?_⟩
 have:=h6 (ke e.1,e.2) (by simp only[ZS,kK];exact⟨e,he,rfl⟩)
 exact this
theorem MM{κ:Type}{ke:κ->nG}{ms:List MapEntry}{l:List (κ×AV×Nat)}(hl:ms.length=l.length)(h:∀ (i:Nat) (e:κ×AV×Nat) (m:MapEntry),l[i]?=some e->ms[i]?=some m->m.key=ke e.1):∀ e∈ms,∃ y,e.key=ke y:=by
 intro e he
 obtain⟨i,hi,rfl⟩:=iN he
 exact⟨_,h i l[i] ms[i] (iO xh) (iO hi)⟩
theorem TI{P:nE}{t:nF}{m k v:AV}{σ:Store}{K:Store->Prop}{w:nH}{mv kv x:nG}(h:Um P t m k v σ K)(hσ:Zq σ w)(hm:V (live σ) w m mv)(hk:V (live σ) w k kv)(hv:V (live σ) w v x) :
 ∃ w' σ',(Instr.mapUpdate t mv kv x).run P w=.ok () w'/\Zq σ' w'/\Ev σ w σ' w'/\K σ':=by
 obtain⟨κ,_,ke,r,c,l,y,kt,et,ht,hK,rfl,hky,hg,hK'⟩:=h
 cases hm
 have:=UG hky hk
 subst this
 obtain⟨ms,h1,h2,h3,h4,h5,h6⟩:=Ih hσ hg
 have keys:=MM h2 (fun i e m a b=>(h3 i e m a b).1)
 have pre:∀ (r':nM (Nat×nG)),(Instr.findKey kt (ke y) ms).run P w=.ok r' w->(Instr.mapUpdate t (.map (some r)) (ke y) x).run P w=(match r' with
  | some (i,_)=>do let key <- Instr.keyThatStays (((ms.toArray[i]?).map (·.key)).getD (ke y)) (ke y);setObj r (.map (ms.toArray.modify i fun e=>{ e with key,val:=x }) c)
  | none=>setObj r (.map (ms.toArray.push { key:=ke y,val:=x,born:=c }) (c+1)):Sem Unit).run P w:=by
  intro r' hr
  simp only[Instr.mapUpdate,jZ,kB ht,kC,mh h1,hK.check,hr]
  cases r' with
  | none=>rfl
  | some p=>obtain⟨i,u⟩:=p;simp only[jZ]
 rcases hK.find y w ms keys with⟨hf,hno⟩|⟨j,e,hf,hj,hkj⟩
 ·have hnot:y ∉ l.map (·.1):=by
   intro hin
   obtain⟨e,he,rfl⟩:=List.mem_map.1 hin
   obtain⟨i,hi,rfl⟩:=iN he
   have hi2:i<ms.length:=by omega
   exact hno ms[i] (kj hi2) (h3 i l[i] ms[i] (iO hi) (iO hi2)).1
  have hu:T3 l y v c=l++[(y,v,c)]:=by unfold T3;rw[ig hnot]
  have hc:T5 l y c=c+1:=by unfold T5;rw[ig hnot]
  rw[hu,hc] at hK'
  obtain⟨o1,o2⟩:=Qu (y:=.map (ZS ke (l++[(y,v,c)])) (c+1)) hσ hg (fun _=>trivial) rfl (.map (ms.toArray.push { key:=ke y,val:=x,born:=c }) (c+1)) (fun w' ev hb=>by
   refine⟨ms++[{ key:=ke y,val:=x,born:=c }],by rw[hb];congr 1;simp,by simp[ZS,h2],fun i e m he hmi=>?_,?_,?_,?_⟩
   ·rw[QZ] at he
    by_cases hi:i<l.length
    ·rw[jU hi] at he
     rw[jU xh] at hmi
     obtain⟨e0,he0,rfl⟩:=Option.map_eq_some_iff.1 he
     obtain⟨a1,a2,a3⟩:=h3 i e0 m he0 hmi
     exact⟨a1,a2,a3.ev ev⟩
    ·rw[jT xh] at he
     rw[jT xh] at hmi
     have:i-l.length=0:=by
      by_cases h0:i-l.length=0
      ·exact h0
      ·obtain⟨q,hq⟩:=Nat.exists_eq_succ_of_ne_zero h0
       rw[hq] at he;simp at he
     rw[this] at he
     rw[show i-ms.length=0 by omega] at hmi
     simp at he hmi
     subst he;subst hmi
     exact⟨rfl,rfl,hv.ev ev⟩
   ·rw[Rn,jv,jv,List.nodup_append]
    refine⟨On hK h4,by simp,fun a ha b hb2=>?_⟩
    obtain⟨a',ha',rfl⟩:=List.mem_map.1 ha
    simp at hb2
    subst hb2
    intro e
    exact hnot (hK.inj _ _ e ▸ ha')
   ·rw[Rp,jv,List.nodup_append]
    refine⟨h5,by simp,fun a ha b hb2=>?_⟩
    obtain⟨a',ha',rfl⟩:=List.mem_map.1 ha
    simp at hb2
    subst hb2
    have:=h6 a' ha'
    omega
   ·intro e he
    simp only[ZS,jv,mi,kK] at he
    rcases he with⟨e0,he0,rfl⟩|⟨e0,he0,rfl⟩
    ·have:=h6 e0 he0;simp only;omega
    ·simp at he0;subst he0;simp)
  exact⟨_,_,by rw[pre _ hf];exact MapKept.run_setObj_map _ h1,o1,o2,hK'⟩
 ·have hjl:j<ms.length:=(List.getElem?_eq_some_iff.1 hj).1
  have hjl2:j<l.length:=by omega
  have hej:=h3 j l[j] e (iO hjl2) hj
  have hyj:l[j].1=y:=hK.inj _ _ (by rw[<- hej.1,hkj])
  have hin:y∈l.map (·.1):=List.mem_map.2 ⟨l[j],kj hjl2,hyj⟩
  have hu:T3 l y v c=l.map (fun e=>if e.1=y then(y,v,e.2.2) else e):=by unfold T3;rw[gZ hin]
  have hc:T5 l y c=c:=by unfold T5;rw[gZ hin]
  rw[hu,hc] at hK'
  have hmj:ms.toArray[j]?=some e:=by simpa using hj
  have hkt:∀ w,(Instr.keyThatStays (((ms.toArray[j]?).map (·.key)).getD (ke y)) (ke y)).run P w=.ok (ke y) w:=by
   intro w;rw[hmj];simp only[jX,ko,hkj];unfold Instr.keyThatStays;rw[hK.same];rfl
  have uniq:∀ i (hi:i<l.length),l[i].1=y->i=j:=by
   intro i hi he
   have:=List.pairwise_iff_getElem.1 h4
   rcases Nat.lt_trichotomy i j with q|q|q
   ·exact((this i j (by rw[io];exact hi) (by rw[io];exact hjl2) q) yJ).elim
   ·exact q
   ·exact((this j i (by rw[io];exact hjl2) (by rw[io];exact hi) q) yJ).elim
  obtain⟨o1,o2⟩:=Qu (y:=.map (ZS ke (l.map (fun e=>if e.1=y then(y,v,e.2.2) else e))) c) hσ hg (fun _=>trivial) rfl (.map (ms.toArray.modify j fun e=>{ e with key:=ke y,val:=x }) c) (fun w' ev hb=>by
   refine⟨(ms.toArray.modify j fun e=>{ e with key:=ke y,val:=x }).toList,by rw[hb],by simp[ZS,h2],fun i e0 m he hmi=>?_,?_,?_,?_⟩
   ·rw[QZ,jp] at he
    have hmi':(ms.toArray.modify j fun e=>{ e with key:=ke y,val:=x })[i]?=some m:=by simpa using hmi
    rw[Array.getElem?_modify] at hmi'
    have hil:i<l.length:=by
     by_cases hi:i<l.length
     ·exact hi
     ·rw[jE xh] at he;simp at he
    rw[iO hil] at he
    simp only[jX,jq] at he
    have hml:i<ms.length:=by omega
    have hbase:=h3 i l[i] ms[i] (iO hil) (iO hml)
    by_cases hij:j=i
    ·subst hij
     simp only[iE,mf,iO hml,jX,jq] at hmi'
     rw[gZ hyj] at he
     subst he;subst hmi'
     exact⟨rfl,hbase.2.1,hv.ev ev⟩
    ·rw[ig hij] at hmi'
     simp only[mf,iO hml,jq] at hmi'
     rw[ig (fun e=>hij (uniq i hil e).symm)] at he
     subst he;subst hmi'
     exact⟨hbase.1,hbase.2.1,hbase.2.2.ev ev⟩
   ·have e1:(l.map (fun e=>if e.1=y then(y,v,e.2.2) else e)).map (·.1)=l.map (·.1):=by
     rw[ki]
     refine mj (fun a _=>?_)
     simp only[Function.comp]
     split
     ·rename_i q;exact q.symm
     ·rfl
    rw[Rn,e1]
    exact On hK h4
   ·have e1:(l.map (fun e=>if e.1=y then(y,v,e.2.2) else e)).map (·.2.2)=l.map (·.2.2):=by
     rw[ki]
     refine mj (fun a _=>?_)
     simp only[Function.comp]
     split<;>rfl
    rw[Rp,e1]
    exact h5
   ·intro e0 he
    simp only[ZS,ki,kK,Function.comp] at he
    obtain⟨e1,he1,rfl⟩:=he
    have:=h6 e1 he1
    split<;>exact this)
  refine⟨_,_,?_,o1,o2,hK'⟩
  rw[pre _ hf]
  simp only[jZ,hkt,kC]
  exact MapKept.run_setObj_map _ h1
def lkV(z:nG)(o:nM AV)(commaOk:Bool):AV:=if commaOk then .tup [o.getD (dL z),.val (.bool o.isSome)] else o.getD (dL z)
def UX(P:nE)(t:nF)(m k:AV)(ok:Bool)(σ:Store)(K:AV->Prop):Prop :=
 ∃ (κ:Type) (_:DecidableEq κ) (ke:κ->nG) (r c:Nat) (l:List (κ×AV×Nat)) (x:κ) (kt et:nF) (z:nG),P.underlying t=some (.map kt et)/\T1 P kt ke/\m=.val (.map (some r))/\k.toVal=some (ke x) /\
   σ.get r=some (.map (ZS ke l) c)/\Zy P et=some z/\K (lkV z (VL l x) ok)
theorem LK{P:nE}{t:nF}{m k:AV}{ok:Bool}{σ:Store}{K:AV->Prop}{w:nH}{mv kv:nG}(h:UX P t m k ok σ K)(hσ:Zq σ w)(hm:V (live σ) w m mv)(hk:V (live σ) w k kv) :
 ∃ v av,(Instr.lookup t mv kv ok).run P w=.ok v w/\V (live σ) w av v/\K av:=by
 obtain⟨κ,_,ke,r,c,l,y,kt,et,z,ht,hK,rfl,hky,hg,hz,hK'⟩:=h
 cases hm
 have:=UG hky hk
 subst this
 obtain⟨ms,h1,h2,h3,h4,h5,h6⟩:=Ih hσ hg
 have keys:=MM h2 (fun i e m a b=>(h3 i e m a b).1)
 have pair:∀ (a:AV) (u:nG) (b:Bool),V (live σ) w a u->V (live σ) w (if ok then .tup [a,.val (.bool b)] else a) (if ok then .tuple #[u,.bool b] else u):=by
  intro a u b ha
  cases ok with
  | false=>exact ha
  | true =>
    refine V.tup [a,.val (.bool b)] [u,.bool b] rfl (fun i c v hc hv=>?_)
    match i with
    | 0=>simp at hc hv;subst hc;subst hv;exact ha
    | 1=>simp at hc hv;subst hc;subst hv;exact .val _
    | i+2=>simp at hc
 have hemp:ms.toArray.toList=ms:=rfl
 rcases hK.find y w ms keys with⟨hf,hno⟩|⟨j,e,hf,hj,hkj⟩
 ·have hnone:VL l y=none:=by
   unfold VL
   rw[List.find?_eq_none.2 (fun e he=>?_)]
   ·rfl
   ·obtain⟨i,hi,rfl⟩:=iN he
    have hi2:i<ms.length:=by omega
    simp only[kD]
    intro e
    exact hno ms[i] (kj hi2) (by rw[(h3 i l[i] ms[i] (iO hi) (iO hi2)).1,e])
  rw[hnone] at hK'
  refine⟨_,_,?_,pair _ _ false (eX (live σ) w z),hK'⟩
  simp only[Instr.lookup,jZ,kB ht,kC,mh h1,hK.check,hf,WV hz,kf]
 ·have hjl:j<ms.length:=(List.getElem?_eq_some_iff.1 hj).1
  have hjl2:j<l.length:=by omega
  have hej:=h3 j l[j] e (iO hjl2) hj
  have hyj:l[j].1=y:=hK.inj _ _ (by rw[<- hej.1,hkj])
  have hsome:VL l y=some l[j].2.1:=by
   unfold VL
   have hfnd:l.find? (fun e=>decide (e.1=y))=some l[j]:=by
    rw[List.find?_eq_some_iff_getElem]
    refine⟨by simpa using hyj,j,hjl2,rfl,fun i hi=>?_⟩
    have:=List.pairwise_iff_getElem.1 h4 i j xz (by simpa using hjl2) hi
    simp only[lS,lT]
    intro e
    exact this (by simp[e,hyj])
   rw[hfnd];rfl
  rw[hsome] at hK'
  refine⟨_,_,?_,pair _ _ true hej.2.2,hK'⟩
  simp only[Instr.lookup,jZ,kB ht,kC,mh h1,hK.check,hf,kf]
def NZ(P:nE)(t:nF)(m:AV)(σ:Store)(K:ZE->Store->Prop):Prop :=
 (∃ (r c:Nat) (es:List (nG×AV×Nat)) (kt et:nF),P.underlying t=some (.map kt et)/\m=.val (.map (some r))/\σ.get r=some (.map es c)/\∀ b,Zm σ b->K (.ret (.val (.pointer (some ⟨b,0,none⟩)))) ((b,.iter (some r) c [] c)::σ)) \/
 (∃ (kt et:nF),P.underlying t=some (.map kt et)/\m=.val (.map none)/\∀ b,Zm σ b->K (.ret (.val (.pointer (some ⟨b,0,none⟩)))) ((b,.iter none 0 [] 0)::σ))
theorem NY{P:nE}{t:nF}{m:AV}{σ:Store}{K:ZE->Store->Prop}{w:nH}{mv:nG}(h:NZ P t m σ K)(hσ:Zq σ w)(hm:V (live σ) w m mv) :
 ∃ v w' av σ',(Instr.range t mv).run P w=.ok v w'/\V (live σ') w' av v/\Zq σ' w'/\Ev σ w σ' w'/\K (.ret av) σ':=by
 rcases h with⟨r,c,es,kt,et,ht,rfl,hg,hK⟩|⟨kt,et,ht,rfl,hK⟩
 rotate_left
 ·cases hm
  exact⟨_,_,_,_,run_range_nilMap w t kt et ht,.val _,hσ.alloc (.mapIter none 0 #[] 0) (.iter none 0 [] 0) (Xb w _),Ev.alloc hσ _ _,hK _ (hσ.fresh (kO _))⟩
 cases hm
 obtain⟨ms,h1,_⟩:=hσ.obj r _ (ZU hg)
 refine⟨_,_,_,_,run_range_map w t kt et r ms.toArray c ht h1,.val _,hσ.alloc (.mapIter (some r) c #[] c) (.iter (some r) c [] c) (Xb w _),Ev.alloc hσ _ _,hK _ (hσ.fresh (kO _))⟩
def IF(it:AV)(σ:Store)(K:ZE->Store->Prop):Prop :=
 (∃ (b r c:Nat) (es:List (nG×AV×Nat)) (seen:List Nat),it=.val (.pointer (some ⟨b,0,none⟩))/\σ.get b=some (.iter (some r) c seen c)/\σ.get r=some (.map es c) /\
  ((∀ e∈es,e.2.2∈seen)->K (.ret (.tup [.val (.bool false)])) σ)/\(∀ e∈es,e.2.2 ∉ seen->K (.ret (.tup [.val (.bool true),dL e.1,e.2.1])) (σ.set b (.iter (some r) c (seen++[e.2.2]) c)))) \/
 (∃ b,it=.val (.pointer (some ⟨b,0,none⟩))/\σ.get b=some (.iter none 0 [] 0)/\K (.ret (.tup [.val (.bool false)])) σ)
theorem LJ{P:nE}{it:AV}{σ:Store}{K:ZE->Store->Prop}{w:nH}{iv:nG}{ty:nF}(h:IF it σ K)(hσ:Zq σ w)(hi:V (live σ) w it iv) :
 ∃ v w' av σ',(Instr.next iv false ty).run P w=.ok v w'/\V (live σ') w' av v/\Zq σ' w'/\Ev σ w σ' w'/\K (.ret av) σ':=by
 rcases h with⟨b,r,c,es,seen,rfl,hb,hg,h1,h2⟩|⟨b,rfl,hb,h1⟩
 rotate_left
 ·cases hi
  have hbw:w.heap[b]?=some (.mapIter none 0 #[] 0):=hσ.obj b _ (ZU hb)
  have hr:(Instr.next (.pointer (some ⟨b,0,none⟩)) false ty).run P w=.ok (.tuple #[.bool false]) w:=by
   simp only[Instr.next,getObj,jZ,Sem.run,hbw,Result.andThen]
   rfl
  refine⟨_,w,_,σ,hr,V.tup [.val (.bool false)] [.bool false] rfl (fun i c v hc hv=>?_),hσ,Ev.refl _ _,h1⟩
  match i with
  | 0=>simp at hc hv;subst hc;subst hv;exact .val _
  | i+1=>simp at hc
 cases hi
 have hbw:w.heap[b]?=some (.mapIter (some r) c seen.toArray c):=hσ.obj b _ (ZU hb)
 obtain⟨ms,m1,m2,m3,m4,m5,m6⟩:=hσ.obj r _ (ZU hg)
 have born:∀ (i:Nat) (hi:i<ms.length),∃ e∈es,ms[i].born=e.2.2/\ms[i].key=e.1/\V (live σ) w e.2.1 ms[i].val:=by
  intro i hi
  have hi2:i<es.length:=by omega
  have:=m3 i es[i] ms[i] (iO hi2) (iO hi)
  exact⟨es[i],kj hi2,this.2.1,this.1,this.2.2⟩
 rcases run_next_at (P:=P) w ty b r c c seen.toArray ms.toArray c hbw m1 (fun x hx=>by
  obtain⟨i,hi,rfl⟩:=iN (show x∈ms from hx)
  obtain⟨e,he,h,_⟩:=born i hi
  rw[h];exact m6 e he) (kO _) with⟨e0,hr⟩|⟨e,he,w1,hw1,hr⟩
 ·refine⟨_,w,_,σ,hr,V.tup [.val (.bool false)] [.bool false] rfl (fun i c v hc hv=>?_),hσ,Ev.refl _ _,h1 (fun e he=>?_)⟩
  ·match i with
   | 0=>simp at hc hv;subst hc;subst hv;exact .val _
   | i+1=>simp at hc
  ·obtain⟨i,hi,rfl⟩:=iN he
   have hi2:i<ms.length:=by omega
   have hq:=m3 i es[i] ms[i] (iO hi) (iO hi2)
   have hemp:leftOf ms.toArray seen.toArray=#[]:=Array.eq_empty_of_size_eq_zero e0
   unfold leftOf at hemp
   rw[Array.filter_eq_empty_iff] at hemp
   have:=hemp ms[i] xf
   simp at this
   rw[<- hq.2.1]
   exact this
 ·unfold leftOf at he
  simp only[Array.toList_filter,List.mem_filter,lS,Array.contains_eq_mem,lT,List.mem_toArray] at he
  obtain⟨he1,he2⟩:=he
  obtain⟨i,hi,rfl⟩:=iN he1
  obtain⟨e,hee,hb1,hb2,hb3⟩:=born i hi
  have hσ1:Zq σ w1:=hw1.elim (fun e=>e ▸ hσ) (fun e=>e ▸ hσ.drew)
  have ev1:Ev σ w σ w1:=hw1.elim (fun e=>e ▸ Ev.refl _ _) (fun e=>e ▸ Ev.drew _ _)
  have hk:=h2 e hee (by rw[<- hb1];exact he2)
  obtain⟨o1,o2⟩:=Qu (y:=.iter (some r) c (seen++[e.2.2]) c) hσ1 hb (fun _=>trivial) rfl (.mapIter (some r) c (seen.toArray.push ms[i].born) c) (fun w' ev hb=>by
   show w'.heap[b]?=_;rw[hb,hb1];simp)
  refine⟨_,_,_,_,hr,?_,o1,ev1.trans o2,hk⟩
  refine V.tup [_,_,_] [_,_,_] rfl (fun k c v hc hv=>?_)
  match k with
  | 0=>simp at hc hv;subst hc;subst hv;exact .val _
  | 1=>simp at hc hv;subst hc;subst hv;rw[hb2];exact eX _ _ _
  | 2=>simp at hc hv;subst hc;subst hv;exact hb3.ev (ev1.trans o2)
  | k+3=>simp at hc
def N7(it:AV)(σ:Store)(K:AV->Prop):Prop :=
 ∃ (b r c:Nat) (es:List (nG×AV×Nat)) (seen:List Nat) (e:nG×AV×Nat),it=.val (.pointer (some ⟨b,0,none⟩))/\σ.get b=some (.iter (some r) c (seen++[e.2.2]) c)/\σ.get r=some (.map es c)/\e∈es/\K (.tup [dL e.1,e.2.1])
theorem N6{P:nE}{it:AV}{σ:Store}{K:AV->Prop}{w:nH}{iv:nG}(h:N7 it σ K)(hσ:Zq σ w)(hi:V (live σ) w it iv) :
 ∃ v av,(Instr.entry iv).run P w=.ok v w/\V (live σ) w av v/\K av:=by
 obtain⟨b,r,c,es,seen,e,rfl,hb,hg,hee,hK⟩:=h
 cases hi
 have hbw:w.heap[b]?=some (.mapIter (some r) c (seen++[e.2.2]).toArray c):=hσ.obj b _ (ZU hb)
 obtain⟨ms,m1,m2,m3,m4,m5,m6⟩:=hσ.obj r _ (ZU hg)
 obtain⟨i,hi,rfl⟩:=iN hee
 have hi2:i<ms.length:=by omega
 have hq:=m3 i es[i] ms[i] (iO hi) (iO hi2)
 have hnd:(ms.map (·.born)).Nodup:=by
  have:ms.map (·.born)=es.map (·.2.2):=by
   apply ml
   intro j
   rw[jp,jp]
   by_cases hj:j<ms.length
   ·have hj2:j<es.length:=by omega
    rw[iO hj,iO hj2]
    simp[(m3 j es[j] ms[j] (iO hj2) (iO hj)).2.1]
   ·rw[jE xh,jE xh];rfl
  rw[this];exact m5
 have hr:=run_entry_at (P:=P) w b r c seen.toArray ms.toArray c ms[i] (by rw[hbw,hq.2.1];simp) m1 (kj hi2) hnd
 refine⟨_,_,hr,?_,hK⟩
 refine V.tup [_,_] [_,_] rfl (fun k c v hc hv=>?_)
 match k with
 | 0=>simp at hc hv;subst hc;subst hv;rw[hq.1];exact eX _ _ _
 | 1=>simp at hc hv;subst hc;subst hv;exact hq.2.2
 | k+2=>simp at hc
def SD(σ:Store)(K:ZE->Store->Prop):Prop:=∀ b,Zm σ b->K (.ret (.val (.map (some b)))) ((b,.map [] 0)::σ)
theorem Pk{P:nE}{t:nF}{σ:Store}{K:ZE->Store->Prop}{w:nH}(h:SD σ K)(hσ:Zq σ w) :
 ∃ v w' av σ',(Instr.makeMap t none).run P w=.ok v w'/\V (live σ') w' av v/\Zq σ' w'/\Ev σ w σ' w'/\K (.ret av) σ':=by
 refine⟨.map (some w.heap.size),w.alloc (.map #[] 0),_,_,rfl,.val _,hσ.alloc (.map #[] 0) (.map [] 0) ⟨[],Xb w _,rfl,by simp,by simp,by simp,by simp⟩,Ev.alloc hσ _ _,h _ (hσ.fresh (kO _))⟩
open Go.RowKit
def CV(L:Nat->Nat->Prop)(w:nH)(cs:List AV)(xs:List nG):Prop:=xs.length=cs.length/\∀ (i:Nat) (c:AV) (x:nG),cs[i]?=some c->xs[i]?=some x->V L w c x
theorem CV.append{L:Nat->Nat->Prop}{w:nH}{cs ds:List AV}{xs ys:List nG}(h:CV L w cs xs)(k:CV L w ds ys):CV L w (cs++ds) (xs++ys):=by
 refine⟨by simp[h.1,k.1],fun i c x hc hx=>?_⟩
 by_cases hi:i<cs.length
 ·rw[jU hi] at hc
  rw[jU (by rw[h.1];exact hi)] at hx
  exact h.2 i c x hc hx
 ·rw[jT xh] at hc
  rw[jT (by rw[h.1];omega),h.1] at hx
  exact k.2 _ c x hc hx
theorem CV.ev{σ σ':Store}{w w':nH}{cs:List AV}{xs:List nG}(h:CV (live σ) w cs xs)(e:Ev σ w σ' w'):CV (live σ') w' cs xs:=⟨h.1,fun i c x a b=>(h.2 i c x a b).ev e⟩
theorem WE{α:Type}{s:Nat}:∀ (es:List (List α)),(∀ (i:Nat) (e:List α),es[i]?=some e->e.length=s)->es.flatten.length=es.length * s/\∀ (i j:Nat) (e:List α),es[i]?=some e->j<s->es.flatten[i * s+j]?=e[j]?:=by
 intro es
 induction es with
 | nil=>intro _;exact⟨by simp,fun i j e h=>by simp at h⟩
 | cons a r ih =>
   intro h
   have ha:=h 0 a rfl
   obtain⟨h1,h2⟩:=ih (fun i e he=>h (i+1) e xN)
   refine⟨by rw[mn,ii,h1,ha,ij,lU];omega,fun i j e he hj=>?_⟩
   rw[mn]
   cases i with
   | zero=>simp at he;subst he;simp only[Nat.zero_mul,jG];rw[jU xh]
   | succ i =>
     rw[jT (by rw[ha,lU];omega),ha,show(i+1) * s+j-s=i * s+j from by rw[lU];omega]
     exact h2 i j e xN hj
theorem Yt.cv{L:Nat->Nat->Prop}{w:nH}{s:Nat}{es:List (List AV)}{xs:List nG}(h:Yt L w s es xs):CV L w es.flatten xs:=by
 obtain⟨f1,f2⟩:=WE es h.sz
 refine⟨by rw[h.len,f1],fun k c x hc hx=>?_⟩
 have hk:k<es.length * s:=by have:=(List.getElem?_eq_some_iff.1 hc).1;omega
 have hs:0<s:=Nat.pos_of_ne_zero (by rintro rfl;simp at hk)
 have hi:k / s<es.length:=(Nat.div_lt_iff_lt_mul hs).2 hk
 have hj:k % s<s:=Nat.mod_lt _ hs
 have hkk:k / s * s+k % s=k:=by rw[Nat.mul_comm];exact Nat.div_add_mod k s
 have he:=iO hi
 have:=f2 (k / s) (k % s) _ he hj
 rw[hkk,hc] at this
 exact h.v (k / s) _ (k % s) c x he this.symm (by rw[hkk];exact hx)
def B2:Builtin->Bool
 | .append=>true
 | _=>false
def TJ(P:nE)(sT xT:nF)(s x:AV)(σ:Store)(K:AV->Store->Prop):Prop :=
 match Yf P sT,x with
 | some e,.list _ s2 ys=>match ZB P e,Zy P e,ZY P e with
   | some sz,some z,some by_=>(Yf P xT).isSome=true/\z.cells.size=sz/\by_<=512/\(s2=sz\/ys=[])/\(∀ e∈ys,e.length=sz) /\
     match s with
     | .list .full s1 es=>es.length+ys.length<=lim/\(s1=sz\/es=[])/\(∀ e∈es,e.length=sz)/\(ys=[]->K (.list .full s1 es) σ) /\
       (ys≠[]->∀ b nc zs,Zm σ b->es.length+ys.length<=nc->zs.length=(nc-(es.length+ys.length)) * sz->K (.val (.slice (some ⟨b,0,none⟩) (es.length+ys.length) nc)) ((b,.cells (es.flatten++ys.flatten++zs))::σ))
     | .val (.slice (some ⟨b,0,none⟩) n cap)=>∃ cs,σ.get b=some (.cells cs)/\cs.length=cap * sz/\n<=cap/\n+ys.length<=lim/\ys.flatten.all AV.one=true/\(cs.take (n * sz)).all AV.one=true /\
       (n+ys.length<=cap->K (.val (.slice (some ⟨b,0,none⟩) (n+ys.length) cap)) (σ.set b (.cells (Yn cs (n * sz) ys.flatten)))) /\
       (¬ n+ys.length<=cap->∀ b' nc zs,Zm σ b'->n+ys.length<=nc->zs.length=(nc-(n+ys.length)) * sz->K (.val (.slice (some ⟨b',0,none⟩) (n+ys.length) nc)) ((b',.cells (cs.take (n * sz)++ys.flatten++zs))::σ))
     | _=>False
   | _,_,_=>False
 | _,_=>False
theorem fP(L:Nat->Nat->Prop)(w:nH)(l:List nG):CV L w (l.map dq) l:=by
 refine⟨by simp,fun i c x hc hx=>?_⟩
 rw[jp,hx] at hc
 simp at hc
 subst hc
 exact eU _ _ _
theorem LT{P:nE}{sT xT ty:nF}{s x:AV}{σ:Store}{K:AV->Store->Prop}{w:nH}{sv xv:nG}(h:TJ P sT xT s x σ K)(hσ:Zq σ w)(hs:V (live σ) w s sv)(hx:V (live σ) w x xv) :
 ∃ y w' av σ',(Builtin.append_ #[sT,xT] ty #[sv,xv]).run P w=.ok y w'/\V (live σ') w' av y/\Zq σ' w'/\Ev σ w σ' w'/\K av σ':=by
 unfold TJ at h
 split at h
 case h_2=>exact h.elim
 rename_i e r2 s2 ys he
 split at h
 case h_2=>exact h.elim
 rename_i sz z by_ hsz hz hby
 obtain⟨hxT,hzs,hb512,hs2,hyl,h⟩:=h
 obtain⟨a2,cap2,b2,o2,zs,rfl,hcap2,hl2,hr2,ha2,hd,hdx⟩:=hx.list_form
 have fit:∀ w':nH,w'.heap=w.heap->∀ (b o:Nat) (k:Nat) (x:nG),w.cell? ⟨b,o+k,none⟩=some x->w'.cell? ⟨b,o+k,none⟩=some x:=by
  intro w' hw b o k x hh
  rw[<- hh];unfold World.cell?;rw[hw]
 have hlen:∀ w',(Builtin.lenOf (.slice a2 ys.length cap2)).run P w'=.ok ys.length w':=fun _=>rfl
 have hnew:∀ w':nH,w'.heap=w.heap->(Builtin.firstCells sz ys.length (.slice a2 ys.length cap2)).run P w'=.ok zs.toArray w':=fun w' hw =>
  XR (L:=live σ) (w:=w') hs2 ha2 ⟨hd.len,hd.sz,fun i e j c y p q t=>(hd.v i e j c y p q t).mono (fun _ _ _ h=>h) (fun b o _ _=>by unfold World.cell?;rw[hw]),hd.one⟩ (fun k x hk=>⟨(hdx k x hk).1,fit w' hw _ _ _ _ (hdx k x hk).2⟩)
 have sure2:Yt (live σ) w sz ys zs:=by
  exact rC
 have cvy:=sure2.cv
 have grow:∀ (base:nM Addr) (n cap:Nat) (cs:List AV) (xs:List nG),CV (live σ) w cs xs->(∀ w':nH,w'.heap=w.heap->(Builtin.firstCells sz n (.slice base n cap)).run P w'=.ok xs.toArray w')->¬ n+ys.length<=cap->n+ys.length<=lim ->
  (∀ b nc zs,Zm σ b->n+ys.length<=nc->zs.length=(nc-(n+ys.length)) * sz->K (.val (.slice (some ⟨b,0,none⟩) (n+ys.length) nc)) ((b,.cells (cs++ys.flatten++zs))::σ)) ->
  ∃ y w' av σ',(Builtin.append_ #[sT,xT] ty #[.slice base n cap,.slice a2 ys.length cap2]).run P w=.ok y w'/\V (live σ') w' av y/\Zq σ' w'/\Ev σ w σ' w'/\K av σ':=by
  intro base n cap cs xs hcv hold hno hlim hk
  obtain⟨nc,hnc,hrun⟩:=Ur (ty:=ty) (P:=P) (w:=w) he hsz hz hby hxT (hlen w) hnew hold hno hlim hb512
  have hzz:=fP (live σ) w (Builtin.zeroCells z.cells (nc-(n+ys.length))).toList
  have all:=(hcv.append cvy).append hzz
  have h1:=hσ.drew
  have e1:=Ev.drew σ w
  have e2:=Ev.alloc h1 (.cells (xs++zs++(Builtin.zeroCells z.cells (nc-(n+ys.length))).toList).toArray e) (.cells (cs++ys.flatten++(Builtin.zeroCells z.cells (nc-(n+ys.length))).toList.map dq))
  have ok:=h1.alloc (.cells (xs++zs++(Builtin.zeroCells z.cells (nc-(n+ys.length))).toList).toArray e) (.cells (cs++ys.flatten++(Builtin.zeroCells z.cells (nc-(n+ys.length))).toList.map dq)) (ej e all.1 (fun i c x hc hx=>((all.2 i c x hc hx).ev e1).ev e2))
  exact⟨_,_,_,_,hrun,.val _,ok,e1.trans e2,hk _ _ _ (hσ.fresh (kO _)) hnc (by rw[io,Wt,hzs])⟩
 split at h
 ·rename_i s1 es
  obtain⟨hlim,hs1,hel,hnil,hk⟩:=h
  obtain⟨a,cap,b,o,xs,rfl,hcap,hl1,hr,ha,hc,hcx⟩:=hs.list_form
  have hold:∀ w':nH,w'.heap=w.heap->(Builtin.firstCells sz es.length (.slice a es.length cap)).run P w'=.ok xs.toArray w':=fun w' hw =>
   XR (L:=live σ) (w:=w') hs1 ha ⟨hc.len,hc.sz,fun i e j c y p q t=>(hc.v i e j c y p q t).mono (fun _ _ _ h=>h) (fun b o _ _=>by unfold World.cell?;rw[hw]),hc.one⟩ (fun k x hk=>⟨(hcx k x hk).1,fit w' hw _ _ _ _ (hcx k x hk).2⟩)
  simp only[Py] at hr
  by_cases hy:ys=[]
  ·subst hy
   refine vT fun hrun=>?_
   have hz0:zs=[]:=by have:=hd.len;simpa using this
   subst hz0
   refine⟨_,w,_,σ,?_,hs,hσ,Ev.refl _ _,hnil rfl⟩
   rw[hrun]
   cases a<;>simp[storeCells]
  ·have:0<ys.length:=List.length_pos_iff.2 hy
   exact grow a es.length cap es.flatten xs hc.cv hold xh hlim (hk hy)
 ·rename_i b n cap
  obtain⟨cs,hg,hcl,hn,hlim,hone,hone1,hk1,hk2⟩:=h
  cases hs
  obtain⟨cur,T,hb,hcur,hcv⟩:=hσ.obj b _ (ZU hg)
  have hnc:n * sz<=cur.length:=by rw[hcur,hcl];exact lY _ hn
  by_cases hroom:n+ys.length<=cap
  ·have hyf:ys.flatten.length=ys.length * sz:=(WE ys sure2.sz).1
   obtain⟨w',r1,r2,r3⟩:=RC (P:=P) (vs:=ys.flatten) (o:=n * sz) hσ hg cvy.1 (by rw[hcl,hyf,<- lZ];exact lY _ hroom) hone cvy.2
   have hrun:=Y6 (ty:=ty) (P:=P) (w:=w) (base:=some ⟨b,0,none⟩) (cap:=cap) he hsz hxT (hlen w) (hnew w rfl) hroom
   refine⟨_,w',_,_,?_,.val _,r2,r3,hk1 hroom⟩
   rw[hrun]
   simp only[YC,jG,r1,kC]
  ·have hcvt:CV (live σ) w (cs.take (n * sz)) (cur.take (n * sz)):=by
    refine⟨by simp[hcur],fun i c x hc hx=>?_⟩
    rw[lA] at hc hx
    split at hc
    ·rename_i hi;rw[gZ hi] at hx;exact hcv i c x hc hx
    ·cases hc
   have hold:∀ w':nH,w'.heap=w.heap->(Builtin.firstCells sz n (.slice (some ⟨b,0,none⟩) n cap)).run P w'=.ok (cur.take (n * sz)).toArray w':=by
    intro w' hw
    have hl:=run_loadCells_list (P:=P) (w:=w') ⟨b,0,none⟩ (cur.take (n * sz)) (fun j v hj=>by
     rw[YC,jG]
     rw[lA] at hj
     split at hj
     ·unfold World.cell?;rw[hw];simp only[hb];simpa using hj
     ·cases hj)
    rw[ip,ks hnc] at hl
    exact hl
   exact grow (some ⟨b,0,none⟩) n cap _ _ hcvt hold hroom hlim (hk2 hroom)
 ·exact h.elim
theorem gg{σ:Store}{w:nH}(hσ:Zq σ w){b n cap sz:Nat}{cs:List AV}{es:List (List AV)}(hg:σ.get b=some (.cells cs))(hn:es.length=n)(hcap:n<=cap)(hlim:n<=lim)(hsz:∀ (i:Nat) (e:List AV),es[i]?=some e->e.length=sz)(hcs:cs.take (n * sz)=es.flatten)(h1:es.flatten.all AV.one=true) :
 V (live (σ.del b)) w (.list .none sz es) (.slice (some ⟨b,0,none⟩) n cap):=by
 obtain⟨cur,T,hb,hcur,hcv⟩:=hσ.obj b _ (ZU hg)
 obtain⟨f1,f2⟩:=WE es hsz
 have hlen:es.flatten.length<=cs.length:=by rw[<- hcs];simp;omega
 have hidx:∀ (i:Nat) (e:List AV) (j:Nat) (c:AV),es[i]?=some e->e[j]?=some c->es.flatten[i * sz+j]?=some c/\cs[i * sz+j]?=some c:=by
  intro i e j c he hc
  have hj:j<sz:=by have:=(List.getElem?_eq_some_iff.1 hc).1;rw[hsz i e he] at this;exact this
  have h2:=f2 i j e he hj
  rw[hc] at h2
  refine⟨h2,?_⟩
  rw[<- hcs,lA] at h2
  split at h2
  ·exact h2
  ·cases h2
 have es':=(WR σ b).ev w
 subst hn
 refine V.list (r:=.none) (b:=b) (o:=0) (rd:=fun k=>cur.getD k .nilFunc) _ _ _ _ hcap hlim hsz (fun _=>rfl) trivial (fun i e j c he hc=>?_) (fun i e j c he hc=>?_)
 ·obtain⟨q1,q2⟩:=hidx i e j c he hc
  have hlt:i * sz+j<cur.length:=by have:=(List.getElem?_eq_some_iff.1 q2).1;omega
  refine⟨fun hl=>?_,?_,?_⟩
  ·obtain⟨y,hy,_⟩:=hl;exact UQ hσ.nodup b y hy
  ·unfold World.cell?;simp only[hb];simp[hlt]
  ·have hv:=hcv _ c cur[i * sz+j] q2 (iO hlt)
   have:=hv.one_of (List.all_eq_true.1 h1 c (iG q1))
   simpa[hlt] using this
 ·obtain⟨q1,q2⟩:=hidx i e j c he hc
  have hlt:i * sz+j<cur.length:=by have:=(List.getElem?_eq_some_iff.1 q2).1;omega
  have hv:=hcv _ c cur[i * sz+j] q2 (iO hlt)
  have:=hv.ev es'
  simpa[hlt] using this
theorem fO{σ:Store}{b n cap sz:Nat}{cs:List AV}{es:List (List AV)}(hg:σ.get b=some (.cells cs))(hn:es.length=n)(hcap:n<=cap)(hlim:n<=lim)(hsz:∀ (i:Nat) (e:List AV),es[i]?=some e->e.length=sz)(hcs:cs.take (n * sz)=es.flatten)(h1:es.flatten.all AV.one=true) :
 Xq (.val (.slice (some ⟨b,0,none⟩) n cap)) σ (.list .none sz es) (σ.del b):=by
 intro w x hσ hv
 cases hv
 exact⟨gg hσ hg hn hcap hlim hsz hcs h1,hσ.sub (WR σ b),(WR σ b).ev w⟩
end Go.Vx
end
