/- Part Q06 of the proof of treeLooksProved: the walk of the program on abstract values, and the plain law. -/
import Derived.Test.YtmedmnondjmleaaGreatQ05
import Derived.Tactics
import Derived.Deep.LoopGhost
import Derived.Orders
set_option linter.unusedVariables false
set_option linter.unusedSimpArgs false
section
namespace Go.Vx
open Go.RowKit
theorem ZR {P:Program}{ρ:Operand→Value}{o:Oper}{s:Sem Value}{w w':World}{v:Value}(ho:execOp ρ o=(do pure (.value (← s))))(h:s.run P w=.ok v w'):(execOp ρ o).run P w=.ok (.value v) w':=by
 rw [ho];simp [h]
theorem Sz {P:Program}{ρ:Operand→Value}{o:Oper}{s:Sem Unit}{w w':World}(ho:execOp ρ o=(do s;pure .skip))(h:s.run P w=.ok () w'):(execOp ρ o).run P w=.ok .skip w':=by
 rw [ho];simp [h]
theorem Mr {ev:Operand→AV}{ρ:Operand→Value}(ps:Array (Nat×Operand)):(ps.toList.map fun p=>(p.1,ev p.2)).map (·.1)=(ps.map fun (i,x)=>(i,ρ x)).toList.map (·.1):=by
 simp [List.map_map,Function.comp_def]
theorem NQ {L:Nat→Nat→Prop}{w:World}{ev:Operand→AV}{ρ:Operand→Value}(ps:Array (Nat×Operand))(h:∀ p∈ps.toList,V L w (ev p.2) (ρ p.2)) :
 ∀ (i:Nat) (p:Nat×AV) (q:Nat×Value),(ps.toList.map fun p=>(p.1,ev p.2))[i]?=some p→(ps.map fun (i,x)=>(i,ρ x)).toList[i]?=some q→V L w p.2 q.2:=by
 intro i p q hp hq
 simp only [Array.toList_map,List.getElem?_map,Option.map_eq_some_iff] at hp hq
 obtain ⟨x,hx,rfl⟩:=hp
 obtain ⟨y,hy,rfl⟩:=hq
 rw [hx] at hy
 injection hy with hy
 subst hy
 exact h x (List.mem_of_getElem? hx)
set_option maxHeartbeats 1000000 in
theorem Xi {P:Program}{mu:Bool}{o:Oper}{ev:Operand→AV}{σ:Store}{K:ZO→Store→Prop}(h:ZB P mu ev σ K o.op):AOp P o ev σ K:=by
 cases ho:o.op with
 | move x =>
   rw [ho] at h;simp only [ZB] at h;intro a w hσ hop next Q hn hp;rw [ho] at hop
   exact ZT (v:=a.eval x) (by unfold execOp;rw [ho];rfl) (hn _ _ _ _ h (hop x (by simp [Op.operands])) hσ (Ev.refl _ _))
 | assign x =>
   rw [ho] at h;simp only [ZB] at h;intro a w hσ hop next Q hn hp;rw [ho] at hop
   exact ZT (v:=a.eval x) (by unfold execOp;rw [ho];rfl) (hn _ _ _ _ h (hop x (by simp [Op.operands])) hσ (Ev.refl _ _))
 | pick c x y =>
   rw [ho] at h;simp only [ZB] at h;intro a w hσ hop next Q hn hp;rw [ho] at hop
   split at h
   ·rename_i b hb
    have hc:=hop c (by simp [Op.operands])
    rw [hb] at hc
    generalize hq:a.eval c=cv at hc
    cases hc
    refine ZT (v:=if b then a.eval x else a.eval y) ?_ (hn _ _ _ _ h ?_ hσ (Ev.refl _ _))
    ·unfold execOp;rw [ho];simp [asBool,hq]
    ·cases b
     ·exact hop y (by simp [Op.operands])
     ·exact hop x (by simp [Op.operands])
   ·exact eY
 | alloc T =>
   rw [ho] at h;simp only [ZB] at h;intro a w hσ hop next Q hn hp
   split at h
   ·rename_i z hz
    obtain ⟨av,σ',k1,k2,k3,k4⟩:=HV h hσ T
    exact ZT (ZR (s:=Instr.alloc T true (.tuple #[])) (by unfold execOp;rw [ho]) (by simp only [Instr.alloc,Sem.run_bind,WL hz,Result.andThen_ok];rfl)) (hn _ _ _ _ k1 k2 k3 k4)
   ·exact eY
 | box T x =>
   rw [ho] at h;simp only [ZB] at h;intro a w hσ hop next Q hn hp;rw [ho] at hop
   split at h
   ·rename_i cs hc
    obtain ⟨c1,c2⟩:=(hop x (by simp [Op.operands])).cells_of hc
    obtain ⟨av,σ',k1,k2,k3,k4⟩:=Pc h hσ T c1 c2
    exact ZT (ZR (s:=Instr.box T (a.eval x)) (by unfold execOp;rw [ho]) (by simp only [Instr.box,newVar,newRow,Sem.run_bind,run_newObj,Result.andThen_ok,Sem.run_pure];rfl)) (hn _ _ _ _ k1 (by simpa using k2) (by simpa using k3) (by simpa using k4))
   ·exact eY
 | build t ps =>
   rw [ho] at h;simp only [ZB] at h;intro a w hσ hop next Q hn hp;rw [ho] at hop
   obtain ⟨y,av,r1,r2,r3⟩:=NJ (P:=P) (L:=live σ) (w:=w) (qs:=ps.map fun (i,x)=>(i,a.eval x)) h (Mr ps) (NQ ps (fun p hp=>hop p.2 (by simp only [Op.operands];simpa using ⟨p.1,by simpa using hp⟩)))
   exact ZT (ZR (s:=Instr.build t (ps.map fun (i,x)=>(i,a.eval x))) (by unfold execOp;rw [ho]) r1) (hn _ _ _ _ r3 r2 hσ (Ev.refl _ _))
 | buildSlice t n ps =>
   rw [ho] at h;simp only [ZB] at h;intro a w hσ hop next Q hn hp;rw [ho] at hop
   obtain ⟨y,w',av,r1,r2,r3,r4,r5⟩:=Sb (P:=P) (σ:=σ) (w:=w) (qs:=ps.map fun (i,x)=>(i,a.eval x)) h hσ (Mr ps) (NQ ps (fun p hp=>hop p.2 (by simp only [Op.operands];simpa using ⟨p.1,by simpa using hp⟩)))
   exact ZT (ZR (s:=Instr.buildSlice t n (ps.map fun (i,x)=>(i,a.eval x))) (by unfold execOp;rw [ho]) r1) (hn _ _ _ _ r5 r2 r3 r4)
 | load T x =>
   rw [ho] at h;simp only [ZB] at h;intro a w hσ hop next Q hn hp;rw [ho] at hop
   obtain ⟨y,av,r1,r2,r3⟩:=Rg h hσ (hop x (by simp [Op.operands]))
   exact ZT (ZR (s:=Instr.loadAt T (a.eval x)) (by unfold execOp;rw [ho]) r1) (hn _ _ _ _ r3 r2 hσ (Ev.refl _ _))
 | store T x y =>
   rw [ho] at h;simp only [ZB] at h;intro a w hσ hop next Q hn hp;rw [ho] at hop
   obtain ⟨w',σ',r1,r2,r3,r4⟩:=Nv h hσ (hop x (by simp [Op.operands])) (hop y (by simp [Op.operands]))
   exact RK (Sz (s:=Instr.storeAt T (a.eval x) (a.eval y)) (by unfold execOp;rw [ho]) r1) (hn _ _ _ _ r4 (.any _) r2 r3)
 | nilCheck x =>
   rw [ho] at h;simp only [ZB] at h;intro a w hσ hop next Q hn hp;rw [ho] at hop
   obtain ⟨y,av,r1,r2,r3⟩:=KN (P:=P) ho h (hop x (by simp [Op.operands]))
   exact ZT r1 (hn _ _ _ _ r3 r2 hσ (Ev.refl _ _))
 | binOp op T x y yT =>
   rw [ho] at h;simp only [ZB] at h;intro a w hσ hop next Q hn hp;rw [ho] at hop
   obtain ⟨v,av,r1,r2,r3⟩:=Lh (P:=P) (op:=op) (T:=T) (x:=x) (y:=y) h (hop x (by simp [Op.operands])) (hop y (by simp [Op.operands])) (fun c hc=>by subst hc;rfl)
   exact ZT (ZR (s:=do eqGuard op T x y (a.eval x) (a.eval y);binOp op T (a.eval x) (a.eval y)) (by unfold execOp;rw [ho]) r1) (hn _ _ _ _ r3 r2 hσ (Ev.refl _ _))
 | unOp op T x =>
   rw [ho] at h;simp only [ZB] at h;intro a w hσ hop next Q hn hp;rw [ho] at hop
   obtain ⟨v,av,r1,r2,r3⟩:=Hz (P:=P) h (hop x (by simp [Op.operands]))
   exact ZT (ZR (s:=Op.unary op (a.eval x)) (by unfold execOp;rw [ho]) r1) (hn _ _ _ _ r3 r2 hσ (Ev.refl _ _))
 | convert s d x =>
   rw [ho] at h;simp only [ZB] at h;intro a w hσ hop next Q hn hp;rw [ho] at hop
   obtain ⟨v,av,r1,r2,r3⟩:=Le (P:=P) h (hop x (by simp [Op.operands]))
   exact ZT (ZR (s:=convert s d (a.eval x)) (by unfold execOp;rw [ho]) r1) (hn _ _ _ _ r3 r2 hσ (Ev.refl _ _))
 | makeInterface T x =>
   rw [ho] at h;simp only [ZB] at h;intro a w hσ hop next Q hn hp;rw [ho] at hop
   obtain ⟨v,av,r1,r2,r3⟩:=NF (P:=P) h (hop x (by simp [Op.operands]))
   exact ZT (ZR (s:=Instr.makeInterface T (a.eval x)) (by unfold execOp;rw [ho]) r1) (hn _ _ _ _ r3 r2 hσ (Ev.refl _ _))
 | makeFunc fn first cap =>
   rw [ho] at h;simp only [ZB] at h;intro a w hσ hop next Q hn hp;rw [ho] at hop
   split at h
   ·rename_i f c hf hc
    have e1:=PM hf (Vs.map (L:=live σ) (w:=w) (ev:=ev) (ρ:=a.eval) first.toList (fun x hx=>hop x (by simp only [Op.operands,Array.toList_append,List.mem_append];exact .inl hx)))
    have e2:=PM hc (Vs.map (L:=live σ) (w:=w) (ev:=ev) (ρ:=a.eval) cap.toList (fun x hx=>hop x (by simp only [Op.operands,Array.toList_append,List.mem_append];exact .inr hx)))
    refine ZT (v:=.func fn f.toArray c.toArray) ?_ (hn _ _ _ _ h (.val _) hσ (Ev.refl _ _))
    subst e1;subst e2
    unfold execOp;rw [ho];simp [Instr.makeFunc]
    exact ⟨Array.toList_inj.1 (by simp),Array.toList_inj.1 (by simp)⟩
   ·exact eY
 | makeSlice t n c =>
   rw [ho] at h;simp only [ZB] at h;intro a w hσ hop next Q hn hp;rw [ho] at hop
   obtain ⟨y,w',av,σ',r1,r2,r3,r4,r5⟩:=SK (P:=P) h hσ (hop n (by simp [Op.operands])) (hop c (by simp [Op.operands]))
   exact ZT (ZR (s:=Instr.makeSlice t (a.eval n) (a.eval c)) (by unfold execOp;rw [ho]) r1) (hn _ _ _ _ r5 r2 r3 r4)
 | slice t x lo hi mx =>
   rw [ho] at h;simp only [ZB] at h;intro a w hσ hop next Q hn hp;rw [ho] at hop
   have opt:∀ (z:Option Operand),(∀ y,z=some y→V (live σ) w (ev y) (a.eval y))→(z.map ev=none↔z.map a.eval=none)∧∀ p u,z.map ev=some p→z.map a.eval=some u→V (live σ) w p u:=by
    intro z hz
    cases z with
    | none=>simp
    | some y=>simp only [Option.map_some,reduceCtorEq,Option.some.injEq,true_and];rintro p u rfl rfl;exact hz y rfl
   have o1:=opt lo (fun y hy=>hop y (by subst hy;simp [Op.operands]))
   have o2:=opt hi (fun y hy=>hop y (by subst hy;simp [Op.operands]))
   have o3:=opt mx (fun y hy=>hop y (by subst hy;simp [Op.operands]))
   obtain ⟨v,av,r1,r2,r3⟩:=KX (P:=P) h (hop x (by simp [Op.operands])) o1.1 o1.2 o2.1 o2.2 o3.1 o3.2
   exact ZT (ZR (s:=Instr.sliceAt t (a.eval x) (lo.map a.eval) (hi.map a.eval) (mx.map a.eval)) (by unfold execOp;rw [ho]) r1) (hn _ _ _ _ r3 r2 hσ (Ev.refl _ _))
 | fieldAddr s x f =>
   rw [ho] at h;simp only [ZB] at h;intro a w hσ hop next Q hn hp;rw [ho] at hop
   obtain ⟨v,av,r1,r2,r3⟩:=NG (P:=P) h (hop x (by simp [Op.operands]))
   exact ZT (ZR (s:=Instr.fieldAt s (a.eval x) f) (by unfold execOp;rw [ho]) r1) (hn _ _ _ _ r3 r2 hσ (Ev.refl _ _))
 | field s x f =>
   rw [ho] at h;simp only [ZB] at h;intro a w hσ hop next Q hn hp;rw [ho] at hop
   obtain ⟨v,av,r1,r2,r3⟩:=PG (P:=P) h (hop x (by simp [Op.operands]))
   exact ZT (ZR (s:=Instr.field s (a.eval x) f) (by unfold execOp;rw [ho]) r1) (hn _ _ _ _ r3 r2 hσ (Ev.refl _ _))
 | indexAddr t x i =>
   rw [ho] at h;simp only [ZB] at h;intro a w hσ hop next Q hn hp;rw [ho] at hop
   obtain ⟨v,av,r1,r2,r3⟩:=SL (P:=P) h (hop x (by simp [Op.operands])) (hop i (by simp [Op.operands]))
   exact ZT (ZR (s:=Instr.indexAt t (a.eval x) (a.eval i)) (by unfold execOp;rw [ho]) r1) (hn _ _ _ _ r3 r2 hσ (Ev.refl _ _))
 | index t x i =>
   rw [ho] at h;simp only [ZB] at h;intro a w hσ hop next Q hn hp;rw [ho] at hop
   obtain ⟨v,av,r1,r2,r3⟩:=NE (P:=P) h (hop x (by simp [Op.operands])) (hop i (by simp [Op.operands]))
   exact ZT (ZR (s:=Instr.index t (a.eval x) (a.eval i)) (by unfold execOp;rw [ho]) r1) (hn _ _ _ _ r3 r2 hσ (Ev.refl _ _))
 | extract x i =>
   rw [ho] at h;simp only [ZB] at h;intro a w hσ hop next Q hn hp;rw [ho] at hop
   obtain ⟨v,av,r1,r2,r3⟩:=Q8 (P:=P) h (hop x (by simp [Op.operands]))
   exact ZT (ZR (s:=Instr.extract (a.eval x) i) (by unfold execOp;rw [ho]) r1) (hn _ _ _ _ r3 r2 hσ (Ev.refl _ _))
 | typeAssert x xT T ok =>
   rw [ho] at h;simp only [ZB] at h;intro a w hσ hop next Q hn hp;rw [ho] at hop
   obtain ⟨v,av,r1,r2,r3⟩:=PH (P:=P) (xT:=xT) h (hop x (by simp [Op.operands]))
   exact ZT (ZR (s:=Instr.typeAssert (a.eval x) xT T ok) (by unfold execOp;rw [ho]) r1) (hn _ _ _ _ r3 r2 hσ (Ev.refl _ _))
 | panic x =>
   rw [ho] at h;simp only [ZB] at h;intro a w hσ hop next Q hn hp;rw [ho] at hop
   split at h
   ·rename_i t v hv
    have hx:=hop x (by simp [Op.operands])
    rw [hv] at hx
    generalize hq:a.eval x=xv at hx
    cases hx
    exact BM (v:=.iface t v) (by unfold execOp;rw [ho];simp [Instr.panic,hq]) (hp _ _ _ h hσ (Ev.refl _ _))
   ·exact eY
 | call c =>
   rw [ho] at h
   obtain ⟨callee,args,ts⟩:=c
   cases callee with
   | value f=>simp only [ZB] at h;exact Lg ho h
   | invoke r m=>simp only [ZB] at h
   | builtin b =>
     simp only [ZB] at h
     split at h
     ·rename_i hmu
      intro a w hσ hop next Q hn hp;rw [ho] at hop
      have hb:b=.append:=by cases b<;>simp_all [BK]
      subst hb
      have hargs:=Vs.map (L:=live σ) (w:=w) (ev:=ev) (ρ:=a.eval) args.toList (fun x hx=>hop x (by simp [Op.operands,Call.operands];simpa using hx))
      unfold Dz at h
      split at h
      ·rename_i sT xT s x hts hax
       obtain ⟨v0,v1,hvs⟩:∃ v0 v1,args.map a.eval=#[v0,v1]:=by
        have hl:=hargs.1
        rw [hax] at hl
        have:(args.map a.eval).toList.length=2:=by simpa using hl.symm
        match hq:(args.map a.eval).toList,this with
        | [p,q],_=>exact ⟨p,q,Array.toList_inj.1 (by rw [hq])⟩
       have ht:ts=#[sT,xT]:=Array.toList_inj.1 hts
       subst ht
       have hv2:args.toList.map a.eval=[v0,v1]:=by have:=congrArg Array.toList hvs;simpa using this
       rw [hax,hv2] at hargs
       obtain ⟨y,w',av,σ',r1,r2,r3,r4,r5⟩:=Lj (ty:=o.type) h hσ (hargs.2 0 _ v0 rfl rfl) (hargs.2 1 _ v1 rfl rfl)
       exact ZT (by rw [Vy ho,hvs];simp [builtin,r1]) (hn _ _ _ _ r5 r2 r3 r4)
      ·exact eY
     intro a w hσ hop next Q hn hp;rw [ho] at hop
     have hargs:=Vs.map (L:=live σ) (w:=w) (ev:=ev) (ρ:=a.eval) args.toList (fun x hx=>hop x (by simp [Op.operands,Call.operands];simpa using hx))
     obtain ⟨y,w',av,σ',r1,r2,r3,r4,r5⟩:=Pa (P:=P) (ty:=o.type) (cs:=args.map fun | .const _=>true | _=>false) (vs:=args.map a.eval) h hσ (by simpa using hargs)
     exact ZT (by rw [Vy ho];exact r1) (hn _ _ _ _ r5 r2 r3 r4)
 | makeMap t r =>
   rw [ho] at h
   cases r with
   | some r=>simp only [ZB] at h
   | none =>
     simp only [ZB] at h;intro a w hσ hop next Q hn hp;rw [ho] at hop
     obtain ⟨v,w',av,σ',r1,r2,r3,r4,r5⟩:=Q4 (P:=P) (t:=t) h hσ
     exact ZT (ZR (s:=Instr.makeMap t none) (by unfold execOp;rw [ho];rfl) r1) (hn _ _ _ _ r5 r2 r3 r4)
 | mapUpdate t m k x =>
   rw [ho] at h;simp only [ZB] at h;intro a w hσ hop next Q hn hp;rw [ho] at hop
   obtain ⟨w',σ',r1,r2,r3,r4⟩:=Te (P:=P) h hσ (hop m (by simp [Op.operands])) (hop k (by simp [Op.operands])) (hop x (by simp [Op.operands]))
   exact RK (Sz (s:=Instr.mapUpdate t (a.eval m) (a.eval k) (a.eval x)) (by unfold execOp;rw [ho]) r1) (hn _ _ _ _ r4 (.any _) r2 r3)
 | insert t m k x =>
   rw [ho] at h;simp only [ZB] at h;intro a w hσ hop next Q hn hp;rw [ho] at hop
   obtain ⟨w',σ',r1,r2,r3,r4⟩:=Te (P:=P) h hσ (hop m (by simp [Op.operands])) (hop k (by simp [Op.operands])) (hop x (by simp [Op.operands]))
   exact RK (Sz (s:=Instr.mapUpdate t (a.eval m) (a.eval k) (a.eval x)) (by unfold execOp;rw [ho]) r1) (hn _ _ _ _ r4 (.any _) r2 r3)
 | lookup t m k ok =>
   rw [ho] at h;simp only [ZB] at h;intro a w hσ hop next Q hn hp;rw [ho] at hop
   obtain ⟨v,av,r1,r2,r3⟩:=M6 (P:=P) h hσ (hop m (by simp [Op.operands])) (hop k (by simp [Op.operands]))
   exact ZT (ZR (s:=Instr.lookup t (a.eval m) (a.eval k) ok) (by unfold execOp;rw [ho]) r1) (hn _ _ _ _ r3 r2 hσ (Ev.refl _ _))
 | range t m =>
   rw [ho] at h;simp only [ZB] at h;intro a w hσ hop next Q hn hp;rw [ho] at hop
   obtain ⟨v,w',av,σ',r1,r2,r3,r4,r5⟩:=NB (P:=P) h hσ (hop m (by simp [Op.operands]))
   exact ZT (ZR (s:=Instr.range t (a.eval m)) (by unfold execOp;rw [ho]) r1) (hn _ _ _ _ r5 r2 r3 r4)
 | next it str =>
   rw [ho] at h
   cases str with
   | true=>simp only [ZB] at h
   | false =>
     simp only [ZB] at h;intro a w hσ hop next Q hn hp;rw [ho] at hop
     obtain ⟨v,w',av,σ',r1,r2,r3,r4,r5⟩:=M4 (P:=P) (ty:=o.type) h hσ (hop it (by simp [Op.operands]))
     exact ZT (ZR (s:=Instr.next (a.eval it) false o.type) (by unfold execOp;rw [ho]) r1) (hn _ _ _ _ r5 r2 r3 r4)
 | entry it =>
   rw [ho] at h;simp only [ZB] at h;intro a w hσ hop next Q hn hp;rw [ho] at hop
   obtain ⟨v,av,r1,r2,r3⟩:=NI (P:=P) h hσ (hop it (by simp [Op.operands]))
   exact ZT (ZR (s:=Instr.entry (a.eval it)) (by unfold execOp;rw [ho]) r1) (hn _ _ _ _ r3 r2 hσ (Ev.refl _ _))
 | _=>rw [ho] at h;simp only [ZB] at h
end Go.Vx
end
section
namespace Go.Vx
open Go.RowKit
def kOp (k:((Exit→Fr→Store→Prop)→Fr→Store→Prop))(Q:Exit→Fr→Store→Prop)(fr:Fr)(d:Option Nat):ZO→Store→Prop
 | .ret v,σ=>k Q (fr.putO d v) σ
 | .pan pv,σ=>Q (.panic [{ v:=pv,recovered:=false }]) fr σ
def XJ (ops:Array Oper)(g:Option (Nat×Bool))(fr:Fr)(A B:Fr→Prop):Prop :=
 match g with
 | none=>A fr
 | some (j,want)=>match (ops[j]?).bind (·.dst) with
   | some d=>match fr d with
     | .val (.bool x)=>(x=want→A (fr.put d (.val (.bool want))))∧(x=(!want)→B (fr.put d (.val (.bool (!want)))))
     | .val (.tuple ⟨[]⟩)=>B fr
     | _=>False
   | none=>False
def kDo (P:Program)(mu:List Nat)(k:((Exit→Fr→Store→Prop)→Fr→Store→Prop))(Q:Exit→Fr→Store→Prop)(σ:Store)(o:Oper):Fr→Prop :=
 fun fr=>ZB P (match o.dst with | some d=>mu.contains d | none=>false) fr.ev σ (kOp k Q fr o.dst) o.op
def Oc (k:((Exit→Fr→Store→Prop)→Fr→Store→Prop))(Q:Exit→Fr→Store→Prop)(σ:Store)(d:Option Nat):Fr→Prop:=fun fr=>k Q (fr.putO d (.val undef)) σ
def Y7 (P:Program)(mu:List Nat)(ops:Array Oper):List Oper→(Exit→Fr→Store→Prop)→Fr→Store→Prop
 | [],Q,fr,σ=>Q .normal fr σ
 | o::r,Q,fr,σ=>XJ ops o.guard fr (kDo P mu (Y7 P mu ops r) Q σ o) (Oc (Y7 P mu ops r) Q σ o.dst)
structure Y4 (n:Nat) (ds:List Deferred) (σ:Store) (fr:Fr) (a:Act) (w:World):Prop where
 defers:a.defers=ds
 fr:Wc n (live σ) w fr a.tmps
 ok:Zo σ w
def AWp (P:Program)(n:Nat)(ds:List Deferred)(c:Code)(Q:Exit→Fr→Store→Prop)(fr:Fr)(σ:Store):Prop :=
 ∀ a w,Y4 n ds σ fr a w→∀ Q':Exit→Act→World→Prop,(∀ e fr' σ' a' w',Q e fr' σ'→Y4 n ds σ' fr' a' w'→Ev σ w σ' w'→Q' e a' w')→c.wp P Q' a w
def opB (n:Nat)(o:Oper):Bool:=o.op.operands.toList.all (de n)&&(match o.dst with | some d=>d<n | none=>true)
theorem Xk {n:Nat}{o:Oper}(h:opB n o=true):∀ k,o.dst=some k→k<n:=by
 intro k hk
 unfold opB at h
 simp only [Bool.and_eq_true,hk,decide_eq_true_eq] at h
 exact h.2
theorem Wj {n:Nat}{o:Oper}(h:opB n o=true):∀ x∈o.op.operands.toList,de n x=true:=by
 intro x hx
 unfold opB at h
 simp only [Bool.and_eq_true] at h
 exact List.all_eq_true.1 h.1 x hx
theorem Wc.same {n:Nat}{L:Nat→Nat→Prop}{w:World}{fr:Fr}{tmps:Array Value}(h:Wc n L w fr tmps){d:Nat}{v:Value}(hd:d<n→tmps.getD d undef=v):Wc n L w (fr.put d (.val v)) tmps :=
 ⟨h.size,fun i hi=>by
  by_cases e:i=d
  ·subst e;rw [hd hi];simp only [Fr.put,if_true];exact .val _
  ·simp only [Fr.put,e,if_false];exact h.slot i hi⟩
theorem Wb {ops:Array Oper}{o:Oper}{fr:Fr}{A B:Fr→Prop}{n:Nat}{L:Nat→Nat→Prop}{w:World}{a:Act}(h:XJ ops o.guard fr A B)(hf:Wc n L w fr a.tmps)(hn:∀ (j d:Nat),(ops[j]?).bind (·.dst)=some d→d<n) :
 (Region.wanted o (yielded ops a.tmps)=true∧∃ fr',Wc n L w fr' a.tmps∧A fr')∨(Region.wanted o (yielded ops a.tmps)=false∧∃ fr',Wc n L w fr' a.tmps∧B fr'):=by
 unfold XJ at h
 unfold Region.wanted
 split at h
 ·rename_i hg
  rw [hg]
  exact .inl ⟨rfl,fr,hf,h⟩
 ·rename_i j want hg
  rw [hg]
  split at h
  ·rename_i d hd
   have hdn:=hn j d hd
   have hs:=hf.slot d hdn
   have hsz:d<a.tmps.size:=by rw [hf.size];exact hdn
   have hy:yielded ops a.tmps j=match a.tmps.getD d undef with | .bool b=>some b | _=>none:=by
    unfold yielded
    rw [hd]
    simp only [Option.bind_some,Array.getD_eq_getD_getElem?,Array.getElem?_eq_getElem hsz,Option.getD_some]
    cases a.tmps[d]<;>rfl
   simp only [hy]
   split at h
   ·rename_i x hx
    rw [hx] at hs
    generalize hv:a.tmps.getD d undef=v at hs
    cases hs
    by_cases e:x=want
    ·subst e
     exact .inl ⟨by simp,_,hf.same (fun _=>hv),h.1 rfl⟩
    ·have e2:x=!want:=by cases x<;>cases want<;>simp_all
     refine .inr ⟨by subst e2;cases want<;>rfl,_,hf.same (fun _=>by rw [hv,e2]),h.2 e2⟩
   ·rename_i hx
    rw [hx] at hs
    generalize hv:a.tmps.getD d undef=v at hs
    cases hs
    exact .inr ⟨rfl,fr,hf,h⟩
   ·exact eY
  ·exact eY
theorem W2 {P:Program}{mu:List Nat}{ops:Array Oper}{n:Nat}{ds:List Deferred}(hn:∀ (j d:Nat),(ops[j]?).bind (·.dst)=some d→d<n){Q:Exit→Fr→Store→Prop}{Q':Exit→Act→World→Prop} :
 ∀ (l:List Oper),(∀ o∈l,opB n o=true)→∀ (fr:Fr) (σ:Store) (a:Act) (w:World),Y7 P mu ops l Q fr σ→Y4 n ds σ fr a w →
   (∀ e fr' σ' a' w',Q e fr' σ'→Y4 n ds σ' fr' a' w'→Ev σ w σ' w'→Q' e a' w')→wpList P ops Q' l a w:=by
 intro l
 induction l with
 | nil=>intro _ fr σ a w h hc hq;exact hq _ _ _ _ _ h hc (Ev.refl _ _)
 | cons o r ih =>
   intro hB fr σ a w h hc hq
   have hBo:=hB o List.mem_cons_self
   have hdst:=Xk hBo
   simp only [Y7] at h
   refine wpList_step fun K hK=>?_
   rcases Wb h hc.fr hn with ⟨hw,fr',hf',hA⟩ | ⟨hw,fr',hf',hA⟩
   ·rw [if_pos hw]
    refine Xi hA a w hc.ok (fun x hx=>hf'.operand (Wj hBo x hx)) K Q' (fun av σ' v w' hk hv hs he=>?_) (fun pv σ' w' hk hs he=>?_)
    ·refine hK _ _ (ih (fun o ho=>hB o (List.mem_cons_of_mem _ ho)) (fr'.putO o.dst av) σ' _ w' hk ⟨?_,(hf'.ev he).put hdst hv,hs⟩ (fun e fr2 σ2 a2 w2 q c v=>hq e fr2 σ2 a2 w2 q c (he.trans v)))
     rw [← hc.defers]
     cases o.dst<;>rfl
    ·exact hq _ _ _ _ _ hk ⟨hc.defers,hf'.ev he,hs⟩ he
   ·rw [if_neg (by rw [hw];exact Bool.false_ne_true)]
    refine hK _ _ (ih (fun o ho=>hB o (List.mem_cons_of_mem _ ho)) _ σ _ w hA ⟨?_,hf'.put hdst (.val undef),hc.ok⟩ hq)
    rw [← hc.defers]
    cases o.dst<;>rfl
def Ux (k:((Exit→Fr→Store→Prop)→Fr→Store→Prop))(Q:Exit→Fr→Store→Prop):Exit→Fr→Store→Prop
 | .normal,fr,σ=>k Q fr σ
 | .exit i,fr,σ=>Q (.exit i) fr σ
 | .goto l,fr,σ=>Q (.goto l) fr σ
 | .ret,fr,σ=>Q .ret fr σ
 | .panic c,fr,σ=>Q (.panic c) fr σ
 | .outgrown,fr,σ=>Q .outgrown fr σ
def VT (id:Nat)(Q:Exit→Fr→Store→Prop):Exit→Fr→Store→Prop
 | .normal,fr,σ=>Q .normal fr σ
 | .exit i,fr,σ=>if i=id then Q .normal fr σ else Q (.exit i) fr σ
 | .goto l,fr,σ=>Q (.goto l) fr σ
 | .ret,fr,σ=>Q .ret fr σ
 | .panic c,fr,σ=>Q (.panic c) fr σ
 | .outgrown,fr,σ=>Q .outgrown fr σ
theorem YZ {n:Nat}{ops:Array Oper}(h:ops.toList.all (opB n)=true):∀ (j d:Nat),(ops[j]?).bind (·.dst)=some d→d<n:=by
 intro j d hd
 simp only [Option.bind_eq_some_iff] at hd
 obtain ⟨o,ho,hd⟩:=hd
 exact Xk (List.all_eq_true.1 h o (by rw [← Array.getElem?_toList] at ho;exact List.mem_of_getElem? ho)) d hd
def Fr.of (l:List (Nat×AV)):Fr:=fun i=>match l with
 | []=>.any
 | (j,v)::r=>if i=j then v else Fr.of r i
def Sf (fr fr':Fr):Prop:=∀ i,Wk (fr i) (fr' i)
theorem Sf.refl (fr:Fr):Sf fr fr:=fun i=>Wk.refl _
theorem Sf.of_nil (fr:Fr):Sf fr (Fr.of []):=fun i=>Wk.any _
theorem Sf.of_cons {fr:Fr}{j:Nat}{v:AV}{l:List (Nat×AV)}(h:Wk (fr j) v)(k:Sf fr (Fr.of l)):Sf fr (Fr.of ((j,v)::l)):=by
 intro i
 simp only [Fr.of]
 split
 ·rename_i e;subst e;exact h
 ·exact k i
theorem Y4.wk {n:Nat}{ds:List Deferred}{σ σ':Store}{fr fr':Fr}{a:Act}{w:World}(h:Y4 n ds σ fr a w)(hf:Sf fr fr')(hs:Sub σ' σ):Y4 n ds σ' fr' a w :=
 ⟨h.defers,⟨h.fr.size,fun i hi=>hf i _ _ _ ((h.fr.slot i hi).ev (hs.ev w))⟩,h.ok.sub hs⟩
theorem AWp.wk {P:Program}{n:Nat}{ds:List Deferred}{c:Code}{Q:Exit→Fr→Store→Prop}{fr fr':Fr}{σ σ':Store}(h:AWp P n ds c Q fr' σ')(hf:Sf fr fr')(hs:Sub σ' σ):AWp P n ds c Q fr σ :=
 fun a w hc Q' hq=>h a w (hc.wk hf hs) Q' (fun e fr2 σ2 a2 w2 q c2 v=>hq e fr2 σ2 a2 w2 q c2 ((hs.ev w).trans v))
theorem AWp.mono {P:Program}{n:Nat}{ds:List Deferred}{c:Code}{Q R:Exit→Fr→Store→Prop}{fr:Fr}{σ:Store}(h:AWp P n ds c Q fr σ)(k:∀ e fr σ,Q e fr σ→R e fr σ):AWp P n ds c R fr σ :=
 fun a w hc Q' hq=>h a w hc Q' (fun e fr2 σ2 a2 w2 q c2 v=>hq e fr2 σ2 a2 w2 (k _ _ _ q) c2 v)
end Go.Vx
end
section
namespace Go.Vx
open Go.RowKit
def Z8 (v:AV)(σ:Store):ZO→Store→Prop:=fun r σ'=>r=.ret v∧σ'=σ
def XS (σ σ':Store):Prop:=∀ b x,σ.get b=some x→σ'.get b=some x
theorem XS.refl (σ:Store):XS σ σ:=fun _ _ h=>h
theorem XS.trans {σ σ1 σ2:Store}(h:XS σ σ1)(k:XS σ1 σ2):XS σ σ2:=fun b x e=>k b x (h b x e)
theorem Zm {σ:Store}{b:Nat}(h:Zx σ b):σ.get b=none:=by
 induction σ with
 | nil=>rfl
 | cons p r ih=>obtain ⟨b',y⟩:=p;simp only [Store.get];rw [if_neg h.1];exact ih h.2
theorem XS.cons {σ:Store}{b:Nat}(h:Zx σ b)(x:AObj):XS σ ((b,x)::σ):=fun b' y e=>by
 simp only [Store.get]
 rw [if_neg (fun c=>by rw [← c,Zm h] at e;cases e)]
 exact e
def XR (P:Program)(op:BinOp)(T:TypeId)(x y:AV)(yc:Operand)(K:AV→Prop):Prop :=
 match Ym P op T x y (opC yc) with
 | some v=>K v
 | none=>False
def ZL (P:Program)(ev:Operand→AV)(σ:Store)(K:AV→Prop):Op→Prop
 | .move x=>K (ev x)
 | .assign x=>K (ev x)
 | .pick c a b=>match ev c with
   | .val (.bool x)=>K (if x then ev a else ev b)
   | _=>False
 | .box _ x=>match (ev x).cells with
   | some cs=>cs.all AV.one=true∧K (.ro cs)
   | none=>False
 | .build t ps=>Vq P t (ps.toList.map fun p=>(p.1,ev p.2)) K
 | .buildSlice t n ps=>YU P t n (ps.toList.map fun p=>(p.1,ev p.2)) K
 | .load T x=>Wg P T (ev x) σ K
 | .nilCheck x=>Q3 (ev x) K
 | .binOp op T x y _=>XR P op T (ev x) (ev y) y K
 | .unOp op _ x=>aun op (ev x) K
 | .convert s d x=>Tf P s d (ev x) K
 | .makeInterface T x=>V1 P T (ev x) K
 | .makeFunc fn first cap=>match cV (first.toList.map ev),cV (cap.toList.map ev) with
   | some f,some c=>K (.val (.func fn f.toArray c.toArray))
   | _,_=>False
 | .slice t x lo hi mx=>Ru P t (ev x) (lo.map ev) (hi.map ev) (mx.map ev) K
 | .fieldAddr s x f=>WB P s (ev x) f K
 | .field s x f=>Wt P s (ev x) f K
 | .indexAddr t x i=>Z7 P t (ev x) (ev i) K
 | .index t x i=>Vp P t (ev x) (ev i) K
 | .extract x i=>XO (ev x) i K
 | .call { callee:=.value f,args,.. }=>∃ v,(∀ σ',XS σ σ'→ZX P (ev f) (args.toList.map ev) σ' (Z8 v σ'))∧K v
 | .call { callee:=.builtin .len,args,argTypes }=>match argTypes.toList,args.toList.map ev with
   | [t],[x]=>Ue P t x σ K
   | _,_=>False
 | .call { callee:=.builtin .max,args,.. }=>amm true (args.toList.map ev) K
 | .call { callee:=.builtin .min,args,.. }=>amm false (args.toList.map ev) K
 | _=>False
def Det (F:(AV→Prop)→Prop):Prop:=∀ K,F K→∃ v,K v∧F (fun u=>u=v)
theorem Oo (P:Program)(T:TypeId)(x:AV)(σ:Store):Det (Wg P T x σ):=by
 intro K h;unfold Wg at h ⊢;split at h
 ·split at h
  ·rename_i v hv;exact ⟨v,h,by simp only [hv]⟩
  ·exact eY
 ·split at h
  ·split at h
   ·rename_i v hv;exact ⟨v,h,by simp_all⟩
   ·exact eY
  ·exact eY
 ·exact eY
theorem QP (P:Program)(s:TypeId)(x:AV)(f:Nat):Det (WB P s x f):=by
 intro K h;unfold WB at h ⊢;split at h
 ·rename_i hf;exact ⟨_,h,by simp only [hf]⟩
 ·rename_i hf;exact ⟨_,h,by simp only [hf]⟩
 ·exact eY
theorem UB (P:Program)(t:TypeId)(x i:AV):Det (Z7 P t x i):=by
 intro K h;unfold Z7 at h ⊢;split at h
 ·rename_i r s es k n e he
  obtain ⟨h1,h2,h3,h4⟩:=h
  have hlt:n.toNat<es.length:=by omega
  exact ⟨.ro es[n.toNat],h4 _ (List.getElem?_eq_getElem hlt),by simp only [he];exact ⟨h1,h2,h3,fun c hc=>by rw [List.getElem?_eq_getElem hlt] at hc;injection hc with hc;rw [hc]⟩⟩
 ·rename_i he;split at h
  ·rename_i s hs;exact ⟨_,h.2.2,by simp only [he,hs];exact ⟨h.1,h.2.1,trivial⟩⟩
  ·exact eY
 ·rename_i he;split at h
  ·rename_i hu;split at h
   ·rename_i s hs;exact ⟨_,h.2.2,by simp only [he,hu,hs];exact ⟨h.1,h.2.1,trivial⟩⟩
   ·exact eY
  ·exact eY
 ·rename_i he;split at h
  ·rename_i hu;split at h
   ·rename_i s hs;exact ⟨_,h.2.2,by simp only [he,hu,hs];exact ⟨h.1,h.2.1,trivial⟩⟩
   ·exact eY
  ·exact eY
 ·exact eY
theorem QN (P:Program)(t:TypeId)(x i:AV):Det (Vp P t x i):=by
 intro K h;unfold Vp at h ⊢;split at h
 ·rename_i hu;exact ⟨_,h.2.2,by simp only [hu];exact ⟨h.1,h.2.1,trivial⟩⟩
 ·rename_i hu;split at h
  ·rename_i s hs
   obtain ⟨h1,h2,h⟩:=h
   split at h
   ·rename_i v hv;exact ⟨v,h,by simp only [hu,hs,hv];exact ⟨h1,h2,trivial⟩⟩
   ·exact eY
  ·exact eY
 ·exact eY
theorem Ra (P:Program)(s:TypeId)(x:AV)(f:Nat):Det (Wt P s x f):=by
 intro K h;unfold Wt at h ⊢;split at h
 ·rename_i hf;split at h
  ·rename_i v hv;exact ⟨v,h,by simp only [hf,hv]⟩
  ·exact eY
 ·exact eY
theorem Oq (P:Program)(s d:TypeId)(x:AV):Det (Tf P s d x):=by
 intro K h;unfold Tf at h ⊢;split at h
 ·rename_i hs hd;exact ⟨_,h,by simp only [hs,hd]⟩
 ·exact eY
theorem JT (op:UnOp)(x:AV):Det (aun op x):=by
 intro K h;unfold aun at h ⊢;split at h
 ·exact iG
 ·exact iG
 ·exact eY
theorem QO (P:Program)(T:TypeId)(x:AV):Det (V1 P T x):=by
 intro K h;unfold V1 at h ⊢;obtain ⟨h1,h2,h⟩:=h;split at h
 ·rename_i v hv;exact ⟨_,h,h1,h2,by simp only [hv]⟩
 ·exact eY
theorem T1 (x:AV)(i:Nat):Det (XO x i):=by
 intro K h;unfold XO at h ⊢;split at h
 ·split at h
  ·rename_i v hv;exact ⟨v,h,by simp only [hv]⟩
  ·exact eY
 ·exact eY
theorem QQ (P:Program)(t:TypeId)(ps:List (Nat×AV)):Det (Vq P t ps):=by
 intro K h;unfold Vq at h ⊢;split at h
 ·rename_i h1 h2;split at h
  ·rename_i v hv;exact ⟨_,h,by simp only [h1,h2,hv]⟩
  ·exact eY
 ·exact eY
theorem V8 (P:Program)(t:TypeId)(n:Nat)(ps:List (Nat×AV)):Det (YU P t n ps):=by
 intro K h;unfold YU at h ⊢;split at h
 ·rename_i he;split at h
  ·rename_i h1 h2
   obtain ⟨a1,a2,a3,a4,h⟩:=h
   split at h
   ·rename_i es hes;exact ⟨_,h.2,by simp only [he,h1,h2,hes];exact ⟨a1,a2,a3,a4,h.1,trivial⟩⟩
   ·exact eY
  ·exact eY
 ·exact eY
theorem MM (P:Program)(t:TypeId)(x:AV)(σ:Store):Det (Ue P t x σ):=by
 intro K h;unfold Ue at h ⊢;split at h
 ·rename_i hu;exact ⟨_,h,by simp only [hu]⟩
 ·rename_i hu;exact ⟨_,h,by simp only [hu]⟩
 ·rename_i hu;exact ⟨_,h,by simp only [hu]⟩
 ·rename_i hu;exact ⟨_,h,by simp only [hu]⟩
 ·rename_i hu;split at h
  ·rename_i hg;exact ⟨_,h,by simp only [hu,hg]⟩
  ·exact eY
 ·rename_i n e;exact ⟨_,h,by first | rfl | (split<;>simp_all)⟩
 ·exact eY
theorem MN (P:Program)(t:TypeId)(x:AV)(lo hi mx:Option AV):Det (Ru P t x lo hi mx):=by
 intro K h;unfold Ru at h ⊢;split at h
 ·rename_i hu;split at h
  ·rename_i h1 h2;exact ⟨_,h.2.2.2,by simp only [hu,h1,h2];exact ⟨h.1,h.2.1,h.2.2.1,trivial⟩⟩
  ·exact eY
 ·rename_i hu;split at h
  ·rename_i h1 h2;exact ⟨_,h.2.2.2.2,by simp only [hu,h1,h2];exact ⟨h.1,h.2.1,h.2.2.1,h.2.2.2.1,trivial⟩⟩
  ·rename_i h1 h2;exact ⟨_,h.2.2.2.2.2.2,by simp only [hu,h1,h2];exact ⟨h.1,h.2.1,h.2.2.1,h.2.2.2.1,h.2.2.2.2.1,h.2.2.2.2.2.1,trivial⟩⟩
  ·exact eY
 ·exact eY
theorem RF (b:Bool)(xs:List AV):Det (amm b xs):=by
 intro K h;unfold amm at h ⊢;split at h
 ·exact iG
 ·exact eY
theorem MK (x:AV):Det (Q3 x):=by
 intro K h;unfold Q3 at h ⊢;split at h
 ·exact iG
 ·exact iG
 ·exact iG
 ·exact eY
theorem Us {P:Program}{o:Oper}{ev:Operand→AV}{σ:Store}{K:AV→Prop}(h:ZL P ev σ K o.op):∃ v,K v∧AOp P o ev σ (Z8 v σ):=by
 have fin:∀ {v:AV},ZB P false ev σ (Z8 v σ) o.op→AOp P o ev σ (Z8 v σ):=fun h=>Xi h
 have via:∀ {F:(AV→Prop)→Prop},Det F→F K→(∀ v,F (fun u=>u=v)→ZB P false ev σ (Z8 v σ) o.op)→∃ v,K v∧AOp P o ev σ (Z8 v σ):=by
  intro F hd hf hs
  obtain ⟨v,hk,hv⟩:=hd K hf
  exact ⟨v,hk,fin (hs v hv)⟩
 have eqk:∀ v:AV,(Y2 (Z8 v σ) σ)=fun u=>u=v:=fun v=>funext fun u=>propext ⟨fun ⟨e,_⟩=>by injection e,fun e=>⟨by rw [e],rfl⟩⟩
 cases ho:o.op with
 | move x=>rw [ho] at h;exact ⟨_,h,fin (by rw [ho];exact ⟨rfl,rfl⟩)⟩
 | assign x=>rw [ho] at h;exact ⟨_,h,fin (by rw [ho];exact ⟨rfl,rfl⟩)⟩
 | pick c a b =>
   rw [ho] at h;simp only [ZL] at h;split at h
   ·rename_i x hx;exact ⟨_,h,fin (by rw [ho];simp only [ZB,hx];exact ⟨rfl,rfl⟩)⟩
   ·exact eY
 | box T x =>
   rw [ho] at h;simp only [ZL] at h;split at h
   ·rename_i cs hx;exact ⟨_,h.2,fin (by rw [ho];simp only [ZB,hx];exact ⟨h.1,rfl,rfl⟩)⟩
   ·exact eY
 | build t ps=>rw [ho] at h;simp only [ZL] at h;exact via (QQ P t _) h (fun v hv=>by rw [ho];simp only [ZB,eqk];exact hv)
 | buildSlice t n ps=>rw [ho] at h;simp only [ZL] at h;exact via (V8 P t n _) h (fun v hv=>by rw [ho];simp only [ZB,eqk];exact hv)
 | load T x=>rw [ho] at h;simp only [ZL] at h;exact via (Oo P T _ σ) h (fun v hv=>by rw [ho];simp only [ZB,eqk];exact hv)
 | nilCheck x=>rw [ho] at h;simp only [ZL] at h;exact via (MK _) h (fun v hv=>by rw [ho];simp only [ZB,eqk];exact hv)
 | binOp op T x y yT =>
   rw [ho] at h;simp only [ZL,XR] at h;split at h
   ·rename_i v hv;exact ⟨v,h,fin (by rw [ho];simp only [ZB,Yk,hv,eqk])⟩
   ·exact eY
 | unOp op T x=>rw [ho] at h;simp only [ZL] at h;exact via (JT op _) h (fun v hv=>by rw [ho];simp only [ZB,eqk];exact hv)
 | convert s d x=>rw [ho] at h;simp only [ZL] at h;exact via (Oq P s d _) h (fun v hv=>by rw [ho];simp only [ZB,eqk];exact hv)
 | makeInterface T x=>rw [ho] at h;simp only [ZL] at h;exact via (QO P T _) h (fun v hv=>by rw [ho];simp only [ZB,eqk];exact hv)
 | makeFunc fn first cap =>
   rw [ho] at h;simp only [ZL] at h;split at h
   ·rename_i h1 h2;exact ⟨_,h,fin (by rw [ho];simp only [ZB,h1,h2];exact ⟨rfl,rfl⟩)⟩
   ·exact eY
 | slice t x lo hi mx=>rw [ho] at h;simp only [ZL] at h;exact via (MN P t _ _ _ _) h (fun v hv=>by rw [ho];simp only [ZB,eqk];exact hv)
 | fieldAddr s x f=>rw [ho] at h;simp only [ZL] at h;exact via (QP P s _ f) h (fun v hv=>by rw [ho];simp only [ZB,eqk];exact hv)
 | field s x f=>rw [ho] at h;simp only [ZL] at h;exact via (Ra P s _ f) h (fun v hv=>by rw [ho];simp only [ZB,eqk];exact hv)
 | indexAddr t x i=>rw [ho] at h;simp only [ZL] at h;exact via (UB P t _ _) h (fun v hv=>by rw [ho];simp only [ZB,eqk];exact hv)
 | index t x i=>rw [ho] at h;simp only [ZL] at h;exact via (QN P t _ _) h (fun v hv=>by rw [ho];simp only [ZB,eqk];exact hv)
 | extract x i=>rw [ho] at h;simp only [ZL] at h;exact via (T1 _ i) h (fun v hv=>by rw [ho];simp only [ZB,eqk];exact hv)
 | call c =>
   obtain ⟨callee,args,ts⟩:=c
   cases callee with
   | value f =>
     rw [ho] at h;simp only [ZL] at h
     obtain ⟨v,h1,h2⟩:=h
     exact ⟨v,h2,fin (by rw [ho];simp only [ZB];exact h1 σ (.refl σ))⟩
   | invoke r m=>rw [ho] at h;simp only [ZL] at h
   | builtin b =>
     cases b<;>rw [ho] at h<;>simp only [ZL] at h
     case len =>
      split at h
      ·rename_i t x ht hx
       exact via (MM P t x σ) h (fun v hv=>by rw [ho];simp only [ZB,Xg,ht,hx,eqk];exact hv)
      ·exact eY
     case max=>exact via (RF true _) h (fun v hv=>by
      rw [ho];simp only [ZB];unfold Xg;split<;>simp_all)
     case min=>exact via (RF false _) h (fun v hv=>by
      rw [ho];simp only [ZB];unfold Xg;split<;>simp_all)
 | _=>rw [ho] at h;simp only [ZL] at h
def S7:Op→Bool
 | .move _ | .assign _ | .pick .. | .box .. | .build .. | .buildSlice .. | .nilCheck _ | .binOp .. | .unOp .. | .convert .. | .makeInterface .. | .makeFunc .. | .slice .. | .fieldAddr .. | .field .. | .indexAddr .. | .index .. | .extract ..=>true
 | _=>false
theorem LU {P:Program}{ev:Operand→AV}{σ σ':Store}{K:AV→Prop}{op:Op}(hf:S7 op=true)(h:ZL P ev σ K op):ZL P ev σ' K op:=by
 cases op<;>first | exact h | (simp only [S7] at hf;exact absurd hf (by simp))
theorem KQ {P:Program}{T:TypeId}{p:AV}{σ σ':Store}{K:AV→Prop}(hs:XS σ σ')(h:Wg P T p σ K):Wg P T p σ' K:=by
 unfold Wg at h ⊢
 split at h
 ·exact h
 ·rename_i b o
  split at h
  ·rename_i cs hc
   simp only [hs _ _ hc]
   exact h
  ·exact eY
 ·exact eY
theorem HL {P:Program}{t:TypeId}{x:AV}{σ σ':Store}{K:AV→Prop}(hs:XS σ σ')(h:Ue P t x σ K):Ue P t x σ' K:=by
 unfold Ue at h ⊢
 split at h
 ·rename_i hu;exact h
 ·rename_i hu;exact h
 ·rename_i hu;exact h
 ·rename_i hu;exact h
 ·rename_i hu;split at h
  ·rename_i hg;simp only [hs _ _ hg];exact h
  ·exact eY
 ·rename_i n e
  first | exact h | (split<;>simp_all)
 ·exact eY
theorem LS {P:Program}{ev:Operand→AV}{σ σ':Store}{K:AV→Prop}{op:Op}(hs:XS σ σ')(h:ZL P ev σ K op):ZL P ev σ' K op:=by
 cases op with
 | load T x=>exact KQ hs h
 | call c =>
   obtain ⟨callee,args,ts⟩:=c
   cases callee with
   | value f=>obtain ⟨v,h1,h2⟩:=h;exact ⟨v,fun σ2 k=>h1 σ2 (hs.trans k),h2⟩
   | invoke r m=>exact h
   | builtin b =>
     cases b<;>simp only [ZL] at h ⊢<;>first | exact h | skip
     case len =>
      split at h
      ·exact HL hs h
      ·exact eY
 | _=>exact h
theorem Iq {P:Program}{ev:Operand→AV}{σ:Store}(op:Op):Det (fun K=>ZL P ev σ K op):=by
 intro K h
 cases op with
 | move x=>exact ⟨_,h,rfl⟩
 | assign x=>exact ⟨_,h,rfl⟩
 | pick c a b =>
   simp only [ZL] at h ⊢;split at h
   ·exact iG
   ·exact eY
 | box T x =>
   simp only [ZL] at h ⊢;split at h
   ·exact ⟨_,h.2,h.1,rfl⟩
   ·exact eY
 | build t ps=>exact QQ P t _ K h
 | buildSlice t n ps=>exact V8 P t n _ K h
 | load T x=>exact Oo P T _ σ K h
 | nilCheck x=>exact MK _ K h
 | binOp op T x y yT =>
   simp only [ZL,XR] at h ⊢;split at h
   ·exact iG
   ·exact eY
 | unOp op T x=>exact JT op _ K h
 | convert s d x=>exact Oq P s d _ K h
 | makeInterface T x=>exact QO P T _ K h
 | makeFunc fn first cap =>
   simp only [ZL] at h ⊢;split at h
   ·exact iG
   ·exact eY
 | slice t x lo hi mx=>exact MN P t _ _ _ _ K h
 | fieldAddr s x f=>exact QP P s _ f K h
 | field s x f=>exact Ra P s _ f K h
 | indexAddr t x i=>exact UB P t _ _ K h
 | index t x i=>exact QN P t _ _ K h
 | extract x i=>exact T1 _ i K h
 | call c =>
   obtain ⟨callee,args,ts⟩:=c
   cases callee with
   | value f=>obtain ⟨v,h1,h2⟩:=h;exact ⟨v,h2,v,h1,rfl⟩
   | invoke r m=>exact h.elim
   | builtin b =>
     cases b<;>simp only [ZL] at h ⊢<;>first | exact h.elim | skip
     case len =>
      split at h
      ·exact MM P _ _ σ K h
      ·exact eY
     case max=>exact RF true _ K h
     case min=>exact RF false _ K h
 | _=>exact h.elim
theorem LT {P:Program}{o:Oper}{ev:Operand→AV}{σ:Store}{K:AV→Prop}(h:ZL P ev σ K o.op) :
 ∃ v,K v∧∀ σ',(S7 o.op=true∨XS σ σ')→AOp P o ev σ' (Z8 v σ'):=by
 obtain ⟨v,hk,h⟩:=Iq o.op K h
 refine ⟨v,hk,fun σ' hs=>?_⟩
 have h':ZL P ev σ' (fun u=>u=v) o.op:=hs.elim (fun f=>LU f h) (fun s=>LS s h)
 obtain ⟨u,rfl,hu⟩:=Us h'
 exact hu
end Go.Vx
end
