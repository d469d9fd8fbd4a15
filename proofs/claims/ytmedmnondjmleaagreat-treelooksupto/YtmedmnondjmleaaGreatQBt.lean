/- Part QBt of the proof of treeLooksProved: the walk of the program on abstract values, and the plain law. -/
import Derived.Test.YtmedmnondjmleaaGreatQ39
import Derived.OpenShut
import Derived.JoinedCond
import Derived.Carry
set_option linter.unusedVariables false
set_option linter.unusedSimpArgs false
namespace Go.Vx
open Go Go.Proofs Go.ChangeShapes Go.WideShapes Go.RowKit
theorem Cm:laidOutB Tryz.prog=true:=by kernel_rfl
theorem Ev.below {W W':World}(h:Ev [] W [] W'):Below W.heap.size W W':=⟨h.os,h.tape,h.output,h.size,fun k hk=>h.obj k hk (fun o=>Ml)⟩
theorem U7 {H:Type}{enc:TypeId×Value→H}{W W':World}{sp:Nat→Bool}:∀ {ts:List TypeId} {vs:List Value} {ds:List (DataW H)} {p:List MemPlace},(∀ t∈ts,Tryz.prog.readableRec t=true∧t<Tryz.prog.types.size) →
 DataW.TrodAll enc Tryz.prog W 0 (fun _=>true) true ts vs ds p→(∀ q∈p,W.sameAt W' q)→(∀ q∈p,sp q.block=true)→DataW.TrodAll enc Tryz.prog W' 0 sp true ts vs ds p
 | [],_,_,_,_,h,_,_=>by obtain ⟨rfl,rfl,rfl⟩:=trodAll_nil h;exact trodAll_mk0
 | t::ts,_,_,_,hr,h,h1,h2=>by
   obtain ⟨v,vs',d,ds',p,q,rfl,rfl,rfl,h3,h4⟩:=trodAll_cons h
   have ht:=hr t List.mem_cons_self
   exact trodAll_cons_mk (WideElems.Trod_stays Cm ht.1 ht.2 h3 (fun x hx=>h1 x (List.mem_append_left _ hx)) (fun x hx=>h2 x (List.mem_append_left _ hx)))
    (U7 (fun u hu=>hr u (List.mem_cons_of_mem _ hu)) h4 (fun x hx=>h1 x (List.mem_append_right _ hx)) (fun x hx=>h2 x (List.mem_append_right _ hx)))
set_option maxRecDepth 100000 in
theorem FD {H:Type}{enc:TypeId×Value→H}{f:Func}{s:ChangeSpec}{W W':World}{args:Array Value}{ds gs:List (DataW H)}{before:List MemPlace}
 (hW:DataW.Whole enc Tryz.prog f.params.toList s.vars false W args.toList ds gs before) (hsv:s.vars=[]) (hres:f.resultTypes=#[4])
 (hpar:∀ t∈f.params.toList,Tryz.prog.readableRec t=true∧t<Tryz.prog.types.size)
 (hs:s.fn H (ds++gs)={ results:=[.lit (.bool true)],args:=ds }) (hev:Ev [] W [] W'):s.post enc Tryz.prog f false true false false W args (.bool true) W':=by
 have hb:=hev.below
 have hlt:∀ p∈before,p.block<W.heap.size:=fun p hp=>by simpa using hW.lt p hp
 have hold:∀ p∈before,(fun b=>decide (b<W.heap.size)) p.block=true:=fun p hp=>by simpa using hlt p hp
 have hW':=hW
 obtain ⟨p,q,hA,hV,rfl,hz,hn⟩:=hW
 rw [hsv] at hV
 obtain ⟨rfl,rfl⟩:=trodVars_none hV
 simp only [List.append_nil] at hlt hold hz hW' hs
 have hargs:∀ sp:Nat→Bool,(∀ x∈p,sp x.block=true)→DataW.TrodAll enc Tryz.prog W' 0 sp true f.params.toList args.toList ds p :=
  fun sp hsp=>U7 hpar hA (fun x hx=>hb.same (hlt x hx)) hsp
 have hrs:∀ (b:Nat) (sp:Nat→Bool) (hd:Bool),DataW.TrodAll enc Tryz.prog W' b sp hd f.resultTypes.toList ((Value.bool true).resultList f.resultTypes.size) [.lit (.bool true)] []:=by
  intro b sp hd
  rw [hres]
  exact trodAll_mk1 (shut_bool Tryz.underlying4 true)
 have hok:∀ (j:Nat) (t:TypeId) (r:Value),f.resultTypes[j]?=some t→((Value.bool true).resultList f.resultTypes.size)[j]?=some r→Value.okWide Tryz.prog W' .any 0 t r:=ok_one hres rfl (okWide_bool_mk Tryz.underlying4 true)
 refine ⟨ds,[],p,[],p,[],hW',?_,?_,?_,?_,fun _=>?_⟩
 ·simp only [List.append_nil,hs];exact hrs _ _ _
 ·simp only [List.append_nil,hs];exact hargs _ hold
 ·simp only [List.append_nil,hs,hsv];exact rfl
 ·exact World.keptBut_mono (fun x hx=>⟨hx,Or.inr (Or.inl hx)⟩) (hb.frame (·∈p))
 ·refine ⟨hok,_,[],([]++p)++[],⟨[]++p,[],trodAll_append (hargs _ (fun _ _=>rfl)) (hrs _ _ _),?_,rfl,?_,?_⟩,?_⟩
  ·rw [hsv];exact rfl
  ·intro b off hp
   have hp':MemPlace.cell b off∈p:=by simpa using hp
   rw [hb.frozen (hlt _ hp')]
   exact hz b off hp'
  ·intro ha;cases ha
  ·intro x hx _
   simpa using hx
set_option maxRecDepth 100000 in
theorem Db {T:Type}{emb:T→List AV}{cost:T→Nat}{w:World}{t:TypeId}{fs:Array Field}{H:Type}{enc:TypeId×Value→H}{base:Nat}{v:Value}{d:DataW H}{p:List MemPlace}(hrd:∀ n,Rd w n t emb cost)(ht:Tryz.prog.underlying t=some (.struct fs))
 (hok:Value.okWide Tryz.prog w .any base t v) (h:DataW.Trod enc Tryz.prog w 0 (fun _=>true) true t v d p) (hb:Go.Proofs.YtmedmnondjmleaaGreat.Rows.uptoBulk d≤1048576):∃ a:T,V (live []) w (.agg (emb a)) v∧cost a<Go.Proofs.YtmedmnondjmleaaGreat.Rows.uptoBulk d:=by
 obtain ⟨cs,rfl,hsz⟩:=okWide_struct ht hok
 obtain ⟨fuel,h⟩:=h
 obtain ⟨a,a1,a2⟩:=hrd (fuel+1) H enc (fun _=>true) fuel (Nat.lt_succ_self _) cs.toList (d,p) h hb
 refine ⟨a,?_,a2⟩
 have:=V.agg (L:=live []) (w:=w) (emb a) cs.toList a1.1 (fun i c v hc hv=>(a1.2 i c v hc hv).2)
 simpa using this
theorem IQ {H:Type}{enc:TypeId×Value→H}{k:FuncId}{f:Func}{s:ChangeSpec}{W:World}{args:Array Value}{ds gs:List (DataW H)}{before:List MemPlace}{avs:List AV}
 (hW:DataW.Whole enc Tryz.prog f.params.toList s.vars false W args.toList ds gs before) (hsv:s.vars=[]) (hres:f.resultTypes=#[4])
 (hpar:∀ t∈f.params.toList,Tryz.prog.readableRec t=true∧t<Tryz.prog.types.size) (hs:s.fn H (ds++gs)={ results:=[.lit (.bool true)],args:=ds })
 (hV:Vs (live []) W avs args.toList) (hp:Pur Tryz.prog k avs (vb true)) :
 Calls Tryz.prog k args W fun e W'=>∃ v,e=.returned v∧s.post enc Tryz.prog f false true false false W args v W':=by
 refine ((hp []).2 W args ⟨by simp,by simp⟩ hV).mono fun e W' he=>?_
 cases e with
 | returned v =>
   obtain ⟨av,σ',⟨h1,rfl⟩,hv,_,hev⟩:=he
   injection h1 with h1;subst h1
   cases hv
   exact ⟨_,rfl,FD hW hsv hres hpar hs hev⟩
 | panicked c=>obtain ⟨pv,σ',_,⟨h1,_⟩,_⟩:=he;cases h1
 | outgrown=>exact he.elim
end Go.Vx
