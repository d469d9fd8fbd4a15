/- Tactic blocks that stand more than once, told once, and names of the library. -/
import Derived.KernelRfl
import Derived.Below
import Derived.Calls
import Derived.Carry
import Derived.ChangeArms
import Derived.ChangeKeysEq
import Derived.Deep.DeepHandedRow
import Derived.Deep.LoopGhost
import Derived.IntWalk
import Derived.JoinedCond
import Derived.LaidLaws
import Derived.Laws.Cells
import Derived.Laws.Entries
import Derived.Laws.IdiomCopy
import Derived.Laws.Sem
import Derived.Laws.Strings
import Derived.Laws.StructEq
import Derived.Laws.Tables
import Derived.Laws.World
import Derived.Lib.Bytealg
import Derived.MapKept
import Derived.Maps.RangeRun
import Derived.OpenShut
import Derived.Orders
import Derived.OrdersIn
import Derived.ProofKit
import Derived.RangeFuncIn
import Derived.RangeFuncLeaves
import Derived.RangeFuncRecord
import Derived.Recover
import Derived.Tactics
import Derived.TacticsIn
import Derived.Test.YtllgjklcpieanaaGreatDoorProg
import Derived.WalkKit
import Derived.WideKeyRuns
namespace Go.Vx
open Go Go.Proofs Go.RowKit Go.ChangeShapes Go.WideShapes Go.ChangeAt
variable{P Q:Prop}
theorem xh(e:P:=by omega):P:=e
theorem xy(e:P:=by kernel_rfl):P:=e
theorem yS(e:P:=by repeat first|exact Zf.turn _ rfl|refine Zf.put rfl ?_):P:=e
theorem xf(e:P:=by simp):P:=e
theorem yV(e:P:=by repeat first|exact Zf.turn _ rfl|refine Zf.put rfl ?_|refine de _ rfl rfl ?_):P:=e
theorem xX(e:P:=by dsimp only;omega):P:=e
theorem xj(e:P:=by decide):P:=e
theorem yh(e:P:=by simp[Op.operands]):P:=e
theorem yo(e:P:=by unfold execOp;rw[ho]):P:=e
theorem xZ(e:P:=by intro r h;cases h):P:=e
theorem yL(e:P:=by have:=hE.1;rw[dE] at this;simp only[ij,im];omega):P:=e
theorem xS(e:P:=by simp only;omega):P:=e
theorem yP(e:P:=by repeat first|exact hk.wide rfl|refine Zf.put rfl ?_):P:=e
theorem yw(e:P:=by rw[<- jI] at ho;exact iG ho):P:=e
theorem yy(e:P:=by try simp only[go_sem,seval]):P:=e
theorem yd(e:P:=by rw[<- e];exact hb):P:=e
theorem yE(e:P:=by rw[cF,Xv,io,ip];simp only[ij,im];omega):P:=e
theorem yv(e:P:=by simp only[ii,ij,im];omega):P:=e
theorem xB(e:P:=by rw[Ze];rfl):P:=e
theorem yC(e:P:=by simp[show ¬ n=l.length by omega]):P:=e
theorem xq(e:P:=by simp[XQ]):P:=e
theorem xz(e:P:=by simp;omega):P:=e
theorem yz(e:P:=by simp[show n=l.length by omega]):P:=e
theorem yA(e:P:=by rw[ZZ];simp only[ij,im];omega):P:=e
theorem xt(e:P:=by simp[cM]):P:=e
theorem yW(e:P:=by repeat first|exact Zf.turn _ rfl|refine Zf.put rfl ?_|exact de _ rfl rfl (by repeat first|exact Zf.turn _ rfl|refine Zf.put rfl ?_)):P:=e
theorem yD(e:P:=by simp only[Dr.len,ii,ij,im];omega):P:=e
theorem yu(e:P:=by rw[hkS k x h1 h2 h3];rfl):P:=e
theorem xL(e:P:=by simpa using hl):P:=e
theorem xU(e:P:=by simp[XQ,opC,h]):P:=e
theorem xM(e:P:=by simpa using hi):P:=e
theorem xJ(e:P:=by simpa using h):P:=e
theorem xK(e:P:=by simp[Zr.emb]):P:=e
theorem yi(e:P:=by intro e c h;cases h):P:=e
theorem xV(e:P:=by simp[Flat.emb]):P:=e
theorem xC(e:P:=by rw[hk];rfl):P:=e
theorem yG(e:P:=by simp only[Dr.len,ii,ij,im] at hB ⊢;omega):P:=e
theorem xH(e:P:=by rw[gyS];rfl):P:=e
theorem xI(e:P:=by rw[gtS];rfl):P:=e
theorem xN(e:P:=by simpa using he):P:=e
theorem yp(e:P:=by simp[Region.wanted,hg]):P:=e
theorem yB(e:P:=by try simp only[go_sem,seval];rfl):P:=e
theorem xW(e:P:=by rw[e];exact ir):P:=e
theorem yU(e:P:=by simp only[Op.operands];simpa using⟨p.1,by simpa using hp⟩):P:=e
theorem xD(e:P:=by rw[h1];rfl):P:=e
theorem ye(e:P:=by rw[<- e2];exact e):P:=e
theorem yj(e:P:=by intro _ _ h;cases h):P:=e
theorem xA(e:P:=by rw[g];rfl):P:=e
theorem yx(e:P:=by subst hy;simp[Op.operands]):P:=e
theorem yR(e:P:=by simp only[Yg,ZO,fL,fN,fS,fA2,fn,fs,fl2,fg,fe2];simp[*]):P:=e
theorem yg(e:P:=by simp[FGroup.emb]):P:=e
theorem xu(e:P:=by simp[cV]):P:=e
theorem yO(e:P:=by simp only[Yg,ZO,fL,fN,fS,fA2,fn,fs,fl2,fg,fe2];simp):P:=e
theorem xY(e:P:=by simp[Store.get]):P:=e
theorem xE(e:P:=by rw[hy];rfl):P:=e
theorem xF(e:P:=by rw[hr];rfl):P:=e
theorem yN(e:P:=by rw[hl2];exact(List.getElem?_eq_some_iff.1 hc').1):P:=e
theorem xG(e:P:=by rw[g2];rfl):P:=e
theorem yq(e:P:=by simp only[ij,im];omega):P:=e
theorem xm(e:P:=by simp[h]):P:=e
theorem xO(e:P:=by simpa using hx):P:=e
theorem xP(e:P:=by simpa using hu):P:=e
theorem xQ(e:P:=by simpa using hp):P:=e
theorem xR(e:P:=by simpa using ha):P:=e
theorem yH(e:P:=by simp only[iu,YI,iw];rw[Zw gT];exact .refl _):P:=e
theorem yI(e:P:=by simp only[iu,Wl,iw];rw[Zw gU];exact .refl _):P:=e
theorem yJ(e:P:=by rw[List.getElem_map,List.getElem_map,he,hyj]):P:=e
theorem yk(e:P:=by rw[<- h.1];exact hi):P:=e
theorem xw(e:P:=by simp[cO]):P:=e
theorem xx(e:P:=by simp[cN]):P:=e
theorem ym(e:P:=by rw[h.size];exact hs):P:=e
abbrev gZ:=@if_pos
abbrev ig:=@if_neg
abbrev ii:=@List.length_append
abbrev ij:=@List.length_cons
abbrev im:=@List.length_nil
abbrev io:=@List.length_map
abbrev ip:=@List.length_take
abbrev iq:=@List.length_singleton
abbrev ir:=@List.mem_cons_self
abbrev iu:=@List.take_zero
abbrev iw:=@Nat.add_zero
abbrev iB:=@List.mem_map_of_mem
abbrev iC:=@Ne.symm
abbrev iE:=@if_true
abbrev iF:=@Int.toNat_natCast
abbrev iG:=@List.mem_of_getElem?
abbrev iK:=@List.isEmpty_iff_length_eq_zero
abbrev iN:=@List.getElem_of_mem
abbrev iO:=@List.getElem?_eq_getElem
abbrev iP:=@List.length_drop
abbrev iQ:=@List.exists_cons_of_ne_nil
abbrev iR:=@List.map_cons
abbrev iS:=@eq_true
abbrev iT:=@decide_true
abbrev iU:=@eq_false
abbrev iV:=@decide_false
abbrev iW:=@List.take_of_length_le
abbrev iX:=@List.mem_of_mem_drop
abbrev iY:=@List.mem_of_mem_take
abbrev iZ:=@Nat.eq_zero_or_pos
abbrev ja:=@Bool.false_or
abbrev jd:=@List.drop_zero
abbrev je:=@congrArg
abbrev jf:=@Int.toNat_zero
abbrev jg:=@Int.toNat_one
abbrev jh:=@List.take_add_one
abbrev jj:=@Option.toList_some
abbrev jk:=@Option.bind_some
abbrev jl:=@List.take_append_drop
abbrev jm:=@decide_not
abbrev jp:=@List.getElem?_map
abbrev jq:=@Option.some.injEq
abbrev jr:=@forall_eq'
abbrev jt:=@true_and
abbrev ju:=@List.append_assoc
abbrev jv:=@List.map_append
abbrev jx:=@List.map_take
abbrev jy:=@decide_eq_true
abbrev jz:=@Bool.true_and
abbrev jA:=@Bool.not_true
abbrev jB:=@Bool.not_false
abbrev jC:=@Nat.mul_one
abbrev jD:=@List.drop_eq_nil_of_le
abbrev jE:=@List.getElem?_eq_none
abbrev jF:=@List.getElem?_take_of_lt
abbrev jG:=@Nat.zero_add
abbrev jI:=@Array.getElem?_toList
abbrev jJ:=@Nat.lt_of_lt_of_le
abbrev jK:=@Array.getElem?_eq_getElem
abbrev jO:=@Array.getD_eq_getD_getElem?
abbrev jP:=@Array.getElem?_append
abbrev jQ:=@List.getD_eq_getElem?_getD
abbrev jR:=@Array.getElem?_replicate
abbrev jS:=@Bool.false_and
abbrev jT:=@List.getElem?_append_right
abbrev jU:=@List.getElem?_append_left
abbrev jV:=@Nat.add_assoc
abbrev jW:=@List.any_append
abbrev jX:=@Option.map_some
abbrev jY:=@decide_eq_false
abbrev jZ:=@Sem.run_bind
abbrev kf:=@Sem.run_pure
abbrev kg:=@List.size_toArray
abbrev kh:=@List.append_nil
abbrev ki:=@List.map_map
abbrev kj:=@List.getElem_mem
abbrev ko:=@Option.getD_some
abbrev kr:=@Option.getD_none
abbrev ks:=@Nat.min_eq_left
abbrev ku:=@List.getElem?_drop
abbrev ky:=@Bool.true_or
abbrev kz:=@Bool.or_true
abbrev kA:=@Bool.or_false
abbrev kB:=@run_underlying
abbrev kC:=@Result.andThen_ok
abbrev kD:=@decide_eq_true_eq
abbrev kE:=@List.cons_append
abbrev kF:=@List.nil_append
abbrev kG:=@Classical.byContradiction
abbrev kH:=@Bool.or_eq_true
abbrev kI:=@List.map_nil
abbrev kJ:=@Bool.and_eq_true
abbrev kK:=@List.mem_map
abbrev kN:=@List.mem_zipIdx_iff_getElem?
abbrev kO:=@Nat.le_refl
abbrev kP:=@Nat.lt_of_not_le
abbrev kQ:=@Option.map_eq_some_iff
abbrev kR:=@List.mem_cons_of_mem
abbrev kU:=@List.getElem?_cons_zero
abbrev kV:=@Tryz.ntmps109
abbrev kW:=@Tryz.results109
abbrev kX:=@ite_self
abbrev kY:=@List.all_cons
abbrev kZ:=@List.all_nil
abbrev lf:=@Bool.and_true
abbrev lh:=@List.take_succ_cons
abbrev lj:=@Nat.le_trans
abbrev lk:=@Nat.le_succ
abbrev lw:=@Array.getElem?_setIfInBounds
abbrev lz:=@Option.bind_eq_some_iff
abbrev lA:=@List.getElem?_take
abbrev lB:=@List.getElem?_range
abbrev lC:=@Below.heap_alloc
abbrev lD:=@List.mem_cons
abbrev lE:=@Prod.mk.injEq
abbrev lF:=@List.nodup_cons
abbrev lH:=@Nat.sub_self
abbrev lI:=@List.singleton_append
abbrev lJ:=@if_false
abbrev lN:=@List.head?_drop
abbrev lO:=@Array.length_toList
abbrev lP:=@List.range_eq_range'
abbrev lQ:=@List.foldl_cons
abbrev lR:=@List.cons.injEq
abbrev lS:=@Bool.not_eq_true'
abbrev lT:=@decide_eq_false_iff_not
abbrev lU:=@Nat.succ_mul
abbrev lV:=@List.range'_succ
abbrev lW:=@List.zip_cons_cons
abbrev lX:=@List.drop_of_length_le
abbrev lY:=@Nat.mul_le_mul_right
abbrev lZ:=@Nat.add_mul
abbrev mb:=@Option.isSome_none
abbrev me:=@Bool.false_eq_true
abbrev mf:=@List.getElem?_toArray
abbrev mg:=@List.getElem?_cons_succ
abbrev mh:=@MapKept.run_getObj_map
abbrev mi:=@List.mem_append
abbrev mj:=@List.map_congr_left
abbrev ml:=@List.ext_getElem?
abbrev mn:=@List.flatten_cons
abbrev mr:=@List.getElem?_replicate
abbrev mw:=@List.drop_eq_getElem_cons
abbrev my:=@List.mem_append_left
abbrev mz:=@List.getElem?_zip_eq_some
abbrev mA:=@List.length_zip
abbrev mB:=@wpIn_region_any
abbrev mC:=@Nat.le_of_eq
abbrev mD:=@List.take_append_of_le_length
abbrev mE:=@Nat.lt_of_le_of_lt
abbrev mF:=@wpIn_wide
abbrev mG:=@Iff.rfl
abbrev mH:=@Option.isSome_some
abbrev mI:=@Option.map_none
abbrev mJ:=@not_true_eq_false
abbrev mK:=@List.contains_iff_mem
abbrev mL:=@ByteArray.size_extract
abbrev mM:=@List.getElem?_zipIdx
abbrev mN:=@List.find?_eq_none
abbrev mP:=@List.mem_of_find?_eq_some
abbrev mQ:=@List.all_append
abbrev mR:=@List.all_eq_false
abbrev mS:=@Nat.zero_le
abbrev mT:=@Nat.not_lt_zero
abbrev mU:=@List.mem_append_right
abbrev mV:=@List.find?_cons
abbrev mW:=@List.mem_singleton
abbrev mX:=@List.any_cons
abbrev mY:=@Tryz.ntmps91
abbrev mZ:=@Tryz.results91
abbrev ng:=@Tryz.func156
abbrev nh:=@Tryz.ntmps156
abbrev nk:=@Tryz.results156
abbrev nr:=@Tryz.func161
abbrev ns:=@Tryz.ntmps161
abbrev nu:=@Tryz.results161
abbrev nw:=@Bool.or_eq_false_iff
abbrev nz:=@Tryz.results253
abbrev nA:=@List.flatten_append
noncomputable abbrev nC:=Go.Proofs.Tryz.prog
abbrev nE:=Program
abbrev nF:=TypeId
abbrev nG:=Value
abbrev nH:=World
abbrev nI:=Oper
abbrev nJ:=Operand
abbrev nK:=Deferred
abbrev nL:=FuncId
abbrev nM:=@Option
abbrev nN:=@Array
theorem nO(e:P:=by
 rw[ig hnl]
 refine Zp (mu:=[]) (dr:=[]) [2,4,21,22,23,24,25,26,27,28] (fun i:Nat=>[(21,vi i)]) (fun _=>σ) (fun i=>i<=l.length/\∀ (j:Nat) (p:List Int),j<i->l[j]?=some p->p≠[]) (fun i=>l.length-i) 0 xy ⟨by omega,fun j p hj=>by omega⟩ ⟨.refl _,trivial⟩ (.refl _) ?_
 rintro i ⟨i1,i2⟩
 try simp only[go_sem,Int.reduceEq,Int.reduceLT,Int.reduceLE,↓reduceIte,Nat.reduceEqDiff,Nat.reduceAdd,Nat.reduceSub,Nat.reduceLT,Nat.reduceLeDiff,Nat.reduceMul,reduceCtorEq,Zt]
 refine⟨fun h1=>⟨by omega,h1,fun c hc=>?_⟩,fun h1=>?_⟩
 ·rw[iF] at hc
  obtain⟨p,hp,rfl⟩:=WA hc
  try simp only[go_sem,Int.reduceEq,Int.reduceLT,Int.reduceLE,↓reduceIte,Nat.reduceEqDiff,Nat.reduceAdd,Nat.reduceSub,Nat.reduceLT,Nat.reduceLeDiff,Nat.reduceMul,reduceCtorEq,Z9]
  refine⟨fun h2=>?_,fun h2=>?_⟩
  ·have:(l.any fun x=>x.isEmpty)=true:=List.any_eq_true.2 ⟨p,iG hp,by rw[iK];omega⟩
   rw[gZ this]
   exact Zl
  ·rw[hw i xh]
   refine .mk (i+1) ⟨by omega,fun j q hj hq=>?_⟩ xh ⟨.refl _,trivial⟩ yS (.refl _)
   by_cases e:j=i
   ·subst e;rw[hp] at hq;injection hq with hq;subst hq;intro e;rw[e] at h2;simp at h2
   ·exact i2 j q xh hq
 ·have hne:∀ p∈l,p≠[]:=fun p hp=>by
   obtain⟨j,hj,rfl⟩:=iN hp
   exact i2 j _ xh (iO hj)
  have hany:¬ (l.any fun x=>x.isEmpty)=true:=by
   rw[List.any_eq_true]
   rintro⟨p,hp,he⟩
   exact hne p hp (List.isEmpty_iff.1 he)
  rw[ig hany]
  have hdr:∀ q∈l.map (·.drop 1),q.length<k:=by
   intro q hq
   obtain⟨p,hp,rfl⟩:=List.mem_map.1 hq
   have:=h p hp
   have:=List.length_pos_iff.2 (hne p hp)
   simp only[iP];omega
  refine⟨by omega,fun c hc=>?_⟩
  obtain⟨p,hp,rfl⟩:=WA hc
  obtain rfl:p0=p:=by rw[show Int.toNat 0=0 from rfl,hp0] at hp;injection hp
  obtain⟨x,xs,hx⟩:=iQ (hne p0 (iG hp0))
  have hhd:p0.headD 0=x:=by rw[hx];rfl
  rw[hhd]
  rw[hx]
  try simp only[go_sem,Int.reduceEq,Int.reduceLT,Int.reduceLE,↓reduceIte,Nat.reduceEqDiff,Nat.reduceAdd,Nat.reduceSub,Nat.reduceLT,Nat.reduceLeDiff,Nat.reduceMul,reduceCtorEq,iR,ij]
  refine⟨by omega,fun c hc=>?_⟩
  obtain rfl:[vi x]=c:=by simpa using hc
  try simp only[go_sem,Int.reduceEq,Int.reduceLT,Int.reduceLE,↓reduceIte,Nat.reduceEqDiff,Nat.reduceAdd,Nat.reduceSub,Nat.reduceLT,Nat.reduceLeDiff,Nat.reduceMul,reduceCtorEq]
  refine Zp (mu:=[]) (dr:=[]) [7,34,35,36,37,38,39,40,41,42,43,44,45,46,47,48,49] (fun i:Nat=>[(7,vi i)]) (fun _=>σ) (fun i=>i<=l.length/\∀ (j:Nat) (p:List Int),j<i->l[j]?=some p->decide (p.headD 0=x)=true) (fun i=>l.length-i) 0 xy ⟨by omega,fun j p hj=>by omega⟩ ⟨.refl _,trivial⟩ (.refl _) ?_
  rintro n ⟨n1,n2⟩
  try simp only[go_sem,Int.reduceEq,Int.reduceLT,Int.reduceLE,↓reduceIte,Nat.reduceEqDiff,Nat.reduceAdd,Nat.reduceSub,Nat.reduceLT,Nat.reduceLeDiff,Nat.reduceMul,reduceCtorEq,Zt]
  refine⟨fun h3=>⟨by omega,by omega,fun c hc=>?_⟩,fun h3=>?_⟩
  ·rw[iF] at hc
   obtain⟨p,hp,rfl⟩:=WA hc
   obtain⟨y,ys,hy⟩:=iQ (hne p (iG hp))
   rw[hy]
   try simp only[go_sem,Int.reduceEq,Int.reduceLT,Int.reduceLE,↓reduceIte,Nat.reduceEqDiff,Nat.reduceAdd,Nat.reduceSub,Nat.reduceLT,Nat.reduceLeDiff,Nat.reduceMul,reduceCtorEq,iR,ij]
   refine⟨by omega,fun c hc=>?_⟩
   obtain rfl:[vi y]=c:=by simpa using hc
   by_cases hyx:y=x
   ·have fy:(y=x)=True:=iS hyx
    try simp only[go_sem,Int.reduceEq,Int.reduceLT,Int.reduceLE,↓reduceIte,Nat.reduceEqDiff,Nat.reduceAdd,Nat.reduceSub,Nat.reduceLT,Nat.reduceLeDiff,Nat.reduceMul,reduceCtorEq,fy,iT]
    rw[hw n xh]
    refine .mk (n+1) ⟨by omega,fun j q hj hq=>?_⟩ xh ⟨.refl _,trivial⟩ yS (.refl _)
    by_cases e:j=n
    ·subst e;rw[hp] at hq;injection hq with hq;subst hq;rw[hy];simp[hyx]
    ·exact n2 j q xh hq
   ·have fy:(y=x)=False:=iU hyx
    have htw:(l.takeWhile fun p=>decide (p.headD 0=x)).length=n:=X2 n1 n2 (fun q hq=>by rw[hp] at hq;injection hq with hq;subst hq;rw[hy];simp[hyx])
    rw[htw]
    have hx5:x=3\/x=4\/x=5\/x=1\/(x≠1/\x≠3/\x≠4/\x≠5):=by omega
    rcases hx5 with rfl|rfl|rfl|rfl|⟨a1,a3,a4,a5⟩
    ·try simp only[go_sem,Int.reduceEq,Int.reduceLT,Int.reduceLE,↓reduceIte,Nat.reduceEqDiff,Nat.reduceAdd,Nat.reduceSub,Nat.reduceLT,Nat.reduceLeDiff,Nat.reduceMul,reduceCtorEq,fy,iV,Zt]
     refine⟨fun g=>?_,fun g=>?_⟩
     ·refine(Y7 l hne).use ?_
      try simp only[go_sem,Int.reduceEq,Int.reduceLT,Int.reduceLE,↓reduceIte,Nat.reduceEqDiff,Nat.reduceAdd,Nat.reduceSub,Nat.reduceLT,Nat.reduceLeDiff,Nat.reduceMul,reduceCtorEq,fy]
      refine(ih (l.map (·.drop 1)) xL hdr).use ?_
      try simp only[go_sem,Int.reduceEq,Int.reduceLT,Int.reduceLE,↓reduceIte,Nat.reduceEqDiff,Nat.reduceAdd,Nat.reduceSub,Nat.reduceLT,Nat.reduceLeDiff,Nat.reduceMul,reduceCtorEq,fy]
      exact Zs yz
     ·exact Zs yC
    ·try simp only[go_sem,Int.reduceEq,Int.reduceLT,Int.reduceLE,↓reduceIte,Nat.reduceEqDiff,Nat.reduceAdd,Nat.reduceSub,Nat.reduceLT,Nat.reduceLeDiff,Nat.reduceMul,reduceCtorEq,fy,iV,Zt]
     refine⟨fun g=>?_,fun g=>?_⟩
     ·refine(Y7 l hne).use ?_
      try simp only[go_sem,Int.reduceEq,Int.reduceLT,Int.reduceLE,↓reduceIte,Nat.reduceEqDiff,Nat.reduceAdd,Nat.reduceSub,Nat.reduceLT,Nat.reduceLeDiff,Nat.reduceMul,reduceCtorEq,fy]
      refine(ih (l.map (·.drop 1)) xL hdr).use ?_
      try simp only[go_sem,Int.reduceEq,Int.reduceLT,Int.reduceLE,↓reduceIte,Nat.reduceEqDiff,Nat.reduceAdd,Nat.reduceSub,Nat.reduceLT,Nat.reduceLeDiff,Nat.reduceMul,reduceCtorEq,fy]
      exact Zs yz
     ·exact Zs yC
    ·try simp only[go_sem,Int.reduceEq,Int.reduceLT,Int.reduceLE,↓reduceIte,Nat.reduceEqDiff,Nat.reduceAdd,Nat.reduceSub,Nat.reduceLT,Nat.reduceLeDiff,Nat.reduceMul,reduceCtorEq,fy,iV,Zt]
     refine⟨fun g=>?_,fun g=>?_⟩
     ·refine(Y7 l hne).use ?_
      try simp only[go_sem,Int.reduceEq,Int.reduceLT,Int.reduceLE,↓reduceIte,Nat.reduceEqDiff,Nat.reduceAdd,Nat.reduceSub,Nat.reduceLT,Nat.reduceLeDiff,Nat.reduceMul,reduceCtorEq,fy]
      refine(ih (l.map (·.drop 1)) xL hdr).use ?_
      try simp only[go_sem,Int.reduceEq,Int.reduceLT,Int.reduceLE,↓reduceIte,Nat.reduceEqDiff,Nat.reduceAdd,Nat.reduceSub,Nat.reduceLT,Nat.reduceLeDiff,Nat.reduceMul,reduceCtorEq,fy]
      exact Zs yz
     ·exact Zs yC
    ·try simp only[go_sem,Int.reduceEq,Int.reduceLT,Int.reduceLE,↓reduceIte,Nat.reduceEqDiff,Nat.reduceAdd,Nat.reduceSub,Nat.reduceLT,Nat.reduceLeDiff,Nat.reduceMul,reduceCtorEq,fy,iV,Zt,WF]
     have e1:List.take ((l.length:Int).toNat-(n:Int).toNat) (List.drop (n:Int).toNat (Xd l))=Xd (l.drop n):=by
      rw[iF,iF,U3,iW (by rw[Zt,iP];omega)]
     rw[e1,Zt]
     have hned:∀ p∈l.drop n,p≠[]:=fun p hp=>hne p (iX hp)
     have hnet:∀ p∈l.take n,p≠[]:=fun p hp=>hne p (iY hp)
     have n0:0<n:=by
      rcases iZ n with e|e
      ·exfalso
       have:=X1 htw hp0 e
       rw[hhd] at this;simp at this
      ·exact e
     refine⟨by omega,by omega,by omega,fun g1=>?_,fun g1=>?_⟩
     ·refine(Tc (l.drop n) hned).use ?_
      have hie:(l.drop n).isEmpty=false:=by
       cases he:(l.drop n).isEmpty with
       | false=>rfl
       | true=>rw[iK] at he;omega
      rw[hie,ja]
      obtain⟨ba,fa⟩:∃ b,((l.drop n).any fun p=>!decide (p.headD 0=2))=b:=⟨_,rfl⟩
      rw[fa]
      cases ba with
      | true =>
        try simp only[go_sem,Int.reduceEq,Int.reduceLT,Int.reduceLE,↓reduceIte,Nat.reduceEqDiff,Nat.reduceAdd,Nat.reduceSub,Nat.reduceLT,Nat.reduceLeDiff,Nat.reduceMul,reduceCtorEq,fy]
        exact Zs xf
      | false =>
        try simp only[go_sem,Int.reduceEq,Int.reduceLT,Int.reduceLE,↓reduceIte,Nat.reduceEqDiff,Nat.reduceAdd,Nat.reduceSub,Nat.reduceLT,Nat.reduceLeDiff,Nat.reduceMul,reduceCtorEq,fy,Zt,WF]
        have e2:List.take ((n:Int).toNat-Int.toNat 0) (List.drop (Int.toNat 0) (Xd l))=Xd (l.take n):=by
         rw[iF,show Int.toNat 0=0 from rfl,jd,Nat.sub_zero,U1]
        rw[e2]
        refine⟨by omega,by omega,?_⟩
        refine(Y7 (l.take n) hnet).use ?_
        try simp only[go_sem,Int.reduceEq,Int.reduceLT,Int.reduceLE,↓reduceIte,Nat.reduceEqDiff,Nat.reduceAdd,Nat.reduceSub,Nat.reduceLT,Nat.reduceLeDiff,Nat.reduceMul,reduceCtorEq,fy]
        refine(ih ((l.take n).map (·.drop 1)) (fun e=>by have:=je List.length e;rw[io,ip,im] at this;omega) (fun q hq=>hdr q (by
         obtain⟨p,hp,rfl⟩:=List.mem_map.1 hq
         exact iB (iY hp)))).use ?_
        obtain⟨bt,ft⟩:∃ b,PO k ((l.take n).map (·.drop 1))=b:=⟨_,rfl⟩
        rw[ft]
        cases bt with
        | false =>
          try simp only[go_sem,Int.reduceEq,Int.reduceLT,Int.reduceLE,↓reduceIte,Nat.reduceEqDiff,Nat.reduceAdd,Nat.reduceSub,Nat.reduceLT,Nat.reduceLeDiff,Nat.reduceMul,reduceCtorEq,fy]
          exact Zs xf
        | true =>
          try simp only[go_sem,Int.reduceEq,Int.reduceLT,Int.reduceLE,↓reduceIte,Nat.reduceEqDiff,Nat.reduceAdd,Nat.reduceSub,Nat.reduceLT,Nat.reduceLeDiff,Nat.reduceMul,reduceCtorEq,fy]
          refine(Y7 (l.drop n) hned).use ?_
          try simp only[go_sem,Int.reduceEq,Int.reduceLT,Int.reduceLE,↓reduceIte,Nat.reduceEqDiff,Nat.reduceAdd,Nat.reduceSub,Nat.reduceLT,Nat.reduceLeDiff,Nat.reduceMul,reduceCtorEq,fy]
          refine(ih ((l.drop n).map (·.drop 1)) (fun e=>by have:=je List.length e;rw[io,im] at this;omega) (fun q hq=>hdr q (by
           obtain⟨p,hp,rfl⟩:=List.mem_map.1 hq
           exact iB (iX hp)))).use ?_
          try simp only[go_sem,Int.reduceEq,Int.reduceLT,Int.reduceLE,↓reduceIte,Nat.reduceEqDiff,Nat.reduceAdd,Nat.reduceSub,Nat.reduceLT,Nat.reduceLeDiff,Nat.reduceMul,reduceCtorEq,fy]
          exact Zs xf
     ·have hie:(l.drop n).isEmpty=true:=List.isEmpty_iff_length_eq_zero.2 xh
      rw[hie]
      exact Zs xf
    ·have f1:(x=1)=False:=iU a1
     have f3:(x=3)=False:=iU a3
     have f4:(x=4)=False:=iU a4
     have f5:(x=5)=False:=iU a5
     try simp only[go_sem,Int.reduceEq,Int.reduceLT,Int.reduceLE,↓reduceIte,Nat.reduceEqDiff,Nat.reduceAdd,Nat.reduceSub,Nat.reduceLT,Nat.reduceLeDiff,Nat.reduceMul,reduceCtorEq,fy,iV,f1,f3,f4,f5,Zt,or_self]
     exact Zl
  ·have htw:(l.takeWhile fun p=>decide (p.headD 0=x)).length=n:=X2 n1 n2 (fun q hq=>by have:=(List.getElem?_eq_some_iff.1 hq).1;omega)
   rw[htw]
   have hx5:x=3\/x=4\/x=5\/x=1\/(x≠1/\x≠3/\x≠4/\x≠5):=by omega
   rcases hx5 with rfl|rfl|rfl|rfl|⟨a1,a3,a4,a5⟩
   ·try simp only[go_sem,Int.reduceEq,Int.reduceLT,Int.reduceLE,↓reduceIte,Nat.reduceEqDiff,Nat.reduceAdd,Nat.reduceSub,Nat.reduceLT,Nat.reduceLeDiff,Nat.reduceMul,reduceCtorEq,Zt,iV,Zt]
    refine⟨fun g=>?_,fun g=>?_⟩
    ·refine(Y7 l hne).use ?_
     try simp only[go_sem,Int.reduceEq,Int.reduceLT,Int.reduceLE,↓reduceIte,Nat.reduceEqDiff,Nat.reduceAdd,Nat.reduceSub,Nat.reduceLT,Nat.reduceLeDiff,Nat.reduceMul,reduceCtorEq,Zt]
     refine(ih (l.map (·.drop 1)) xL hdr).use ?_
     try simp only[go_sem,Int.reduceEq,Int.reduceLT,Int.reduceLE,↓reduceIte,Nat.reduceEqDiff,Nat.reduceAdd,Nat.reduceSub,Nat.reduceLT,Nat.reduceLeDiff,Nat.reduceMul,reduceCtorEq,Zt]
     exact Zs yz
    ·exact Zs yC
   ·try simp only[go_sem,Int.reduceEq,Int.reduceLT,Int.reduceLE,↓reduceIte,Nat.reduceEqDiff,Nat.reduceAdd,Nat.reduceSub,Nat.reduceLT,Nat.reduceLeDiff,Nat.reduceMul,reduceCtorEq,Zt,iV,Zt]
    refine⟨fun g=>?_,fun g=>?_⟩
    ·refine(Y7 l hne).use ?_
     try simp only[go_sem,Int.reduceEq,Int.reduceLT,Int.reduceLE,↓reduceIte,Nat.reduceEqDiff,Nat.reduceAdd,Nat.reduceSub,Nat.reduceLT,Nat.reduceLeDiff,Nat.reduceMul,reduceCtorEq,Zt]
     refine(ih (l.map (·.drop 1)) xL hdr).use ?_
     try simp only[go_sem,Int.reduceEq,Int.reduceLT,Int.reduceLE,↓reduceIte,Nat.reduceEqDiff,Nat.reduceAdd,Nat.reduceSub,Nat.reduceLT,Nat.reduceLeDiff,Nat.reduceMul,reduceCtorEq,Zt]
     exact Zs yz
    ·exact Zs yC
   ·try simp only[go_sem,Int.reduceEq,Int.reduceLT,Int.reduceLE,↓reduceIte,Nat.reduceEqDiff,Nat.reduceAdd,Nat.reduceSub,Nat.reduceLT,Nat.reduceLeDiff,Nat.reduceMul,reduceCtorEq,Zt,iV,Zt]
    refine⟨fun g=>?_,fun g=>?_⟩
    ·refine(Y7 l hne).use ?_
     try simp only[go_sem,Int.reduceEq,Int.reduceLT,Int.reduceLE,↓reduceIte,Nat.reduceEqDiff,Nat.reduceAdd,Nat.reduceSub,Nat.reduceLT,Nat.reduceLeDiff,Nat.reduceMul,reduceCtorEq,Zt]
     refine(ih (l.map (·.drop 1)) xL hdr).use ?_
     try simp only[go_sem,Int.reduceEq,Int.reduceLT,Int.reduceLE,↓reduceIte,Nat.reduceEqDiff,Nat.reduceAdd,Nat.reduceSub,Nat.reduceLT,Nat.reduceLeDiff,Nat.reduceMul,reduceCtorEq,Zt]
     exact Zs yz
    ·exact Zs yC
   ·try simp only[go_sem,Int.reduceEq,Int.reduceLT,Int.reduceLE,↓reduceIte,Nat.reduceEqDiff,Nat.reduceAdd,Nat.reduceSub,Nat.reduceLT,Nat.reduceLeDiff,Nat.reduceMul,reduceCtorEq,Zt,iV,Zt,WF]
    have e1:List.take ((l.length:Int).toNat-(n:Int).toNat) (List.drop (n:Int).toNat (Xd l))=Xd (l.drop n):=by
     rw[iF,iF,U3,iW (by rw[Zt,iP];omega)]
    rw[e1,Zt]
    have hned:∀ p∈l.drop n,p≠[]:=fun p hp=>hne p (iX hp)
    have hnet:∀ p∈l.take n,p≠[]:=fun p hp=>hne p (iY hp)
    have n0:0<n:=by
     rcases iZ n with e|e
     ·exfalso
      have:=X1 htw hp0 e
      rw[hhd] at this;simp at this
     ·exact e
    refine⟨by omega,by omega,by omega,fun g1=>?_,fun g1=>?_⟩
    ·refine(Tc (l.drop n) hned).use ?_
     have hie:(l.drop n).isEmpty=false:=by
      cases he:(l.drop n).isEmpty with
      | false=>rfl
      | true=>rw[iK] at he;omega
     rw[hie,ja]
     obtain⟨ba,fa⟩:∃ b,((l.drop n).any fun p=>!decide (p.headD 0=2))=b:=⟨_,rfl⟩
     rw[fa]
     cases ba with
     | true =>
       try simp only[go_sem,Int.reduceEq,Int.reduceLT,Int.reduceLE,↓reduceIte,Nat.reduceEqDiff,Nat.reduceAdd,Nat.reduceSub,Nat.reduceLT,Nat.reduceLeDiff,Nat.reduceMul,reduceCtorEq,Zt]
       exact Zs xf
     | false =>
       try simp only[go_sem,Int.reduceEq,Int.reduceLT,Int.reduceLE,↓reduceIte,Nat.reduceEqDiff,Nat.reduceAdd,Nat.reduceSub,Nat.reduceLT,Nat.reduceLeDiff,Nat.reduceMul,reduceCtorEq,Zt,Zt,WF]
       have e2:List.take ((n:Int).toNat-Int.toNat 0) (List.drop (Int.toNat 0) (Xd l))=Xd (l.take n):=by
        rw[iF,show Int.toNat 0=0 from rfl,jd,Nat.sub_zero,U1]
       rw[e2]
       refine⟨by omega,by omega,?_⟩
       refine(Y7 (l.take n) hnet).use ?_
       try simp only[go_sem,Int.reduceEq,Int.reduceLT,Int.reduceLE,↓reduceIte,Nat.reduceEqDiff,Nat.reduceAdd,Nat.reduceSub,Nat.reduceLT,Nat.reduceLeDiff,Nat.reduceMul,reduceCtorEq,Zt]
       refine(ih ((l.take n).map (·.drop 1)) (fun e=>by have:=je List.length e;rw[io,ip,im] at this;omega) (fun q hq=>hdr q (by
        obtain⟨p,hp,rfl⟩:=List.mem_map.1 hq
        exact iB (iY hp)))).use ?_
       obtain⟨bt,ft⟩:∃ b,PO k ((l.take n).map (·.drop 1))=b:=⟨_,rfl⟩
       rw[ft]
       cases bt with
       | false =>
         try simp only[go_sem,Int.reduceEq,Int.reduceLT,Int.reduceLE,↓reduceIte,Nat.reduceEqDiff,Nat.reduceAdd,Nat.reduceSub,Nat.reduceLT,Nat.reduceLeDiff,Nat.reduceMul,reduceCtorEq,Zt]
         exact Zs xf
       | true =>
         try simp only[go_sem,Int.reduceEq,Int.reduceLT,Int.reduceLE,↓reduceIte,Nat.reduceEqDiff,Nat.reduceAdd,Nat.reduceSub,Nat.reduceLT,Nat.reduceLeDiff,Nat.reduceMul,reduceCtorEq,Zt]
         refine(Y7 (l.drop n) hned).use ?_
         try simp only[go_sem,Int.reduceEq,Int.reduceLT,Int.reduceLE,↓reduceIte,Nat.reduceEqDiff,Nat.reduceAdd,Nat.reduceSub,Nat.reduceLT,Nat.reduceLeDiff,Nat.reduceMul,reduceCtorEq,Zt]
         refine(ih ((l.drop n).map (·.drop 1)) (fun e=>by have:=je List.length e;rw[io,im] at this;omega) (fun q hq=>hdr q (by
          obtain⟨p,hp,rfl⟩:=List.mem_map.1 hq
          exact iB (iX hp)))).use ?_
         try simp only[go_sem,Int.reduceEq,Int.reduceLT,Int.reduceLE,↓reduceIte,Nat.reduceEqDiff,Nat.reduceAdd,Nat.reduceSub,Nat.reduceLT,Nat.reduceLeDiff,Nat.reduceMul,reduceCtorEq,Zt]
         exact Zs xf
    ·have hie:(l.drop n).isEmpty=true:=List.isEmpty_iff_length_eq_zero.2 xh
     rw[hie]
     exact Zs xf
   ·have f1:(x=1)=False:=iU a1
    have f3:(x=3)=False:=iU a3
    have f4:(x=4)=False:=iU a4
    have f5:(x=5)=False:=iU a5
    try simp only[go_sem,Int.reduceEq,Int.reduceLT,Int.reduceLE,↓reduceIte,Nat.reduceEqDiff,Nat.reduceAdd,Nat.reduceSub,Nat.reduceLT,Nat.reduceLeDiff,Nat.reduceMul,reduceCtorEq,Zt,iV,f1,f3,f4,f5,Zt,or_self]
    exact Zl):P:=e
theorem nP(e:P:=by
 rw[<- hT]
 try simp only[go_sem,seval,gT5]
 refine(VY B R a .none 4 (.inl rfl) T gTR).only ?_
 cases ha:a.all (XW B)
 ·try simp only[go_sem,seval]
  exact .mk (.refl _) (by have:=hTs (ckO f grp locals base q);rw[Zw gTk] at this;exact this) ⟨rfl,q,rfl⟩
 try simp only[go_sem,seval]
 refine Zp (mu:=[5]) (dr:=[(3,6,0),(8,39,0),(14,33,0)]) [6,10,207,208,209,210,211,212,213,214,215,216] (fun x:Nat×Nat=>[(207,vi x.1)]) (fun x=>T.set bk (ckO f grp locals base x.2)) (fun x=>x.1<=l.length/\x.2<=locals.length/\Z0 f grp locals base (l.take x.1) B q=some x.2) (fun x=>l.length-x.1) (0,q) xy ⟨by omega,hq,by simp[Z0]⟩ ⟨.refl _,trivial⟩ (by rw[Zw gTk];exact .refl _) ?_
 rintro⟨i,s1⟩ ⟨i1,i2,i3⟩
 simp only at i1 i2 i3
 try simp only[go_sem,seval,cH]
 refine⟨fun h1=>⟨by omega,h1,fun c hc=>?_⟩,fun h1=>?_⟩
 ·rw[iF] at hc
  obtain⟨x,hx,rfl⟩:=dH hc
  have ihx:=ih x (iG hx) B s1 R
  have hsp:=Z6 hx
  have hgs:Z0 f grp locals base (l.take (i+1)) B q=Yr f grp locals base x B s1:=by
   rw[jh,hx,jj,YB,i3]
   simp only[jk,Z0]
   cases Yr f grp locals base x B s1<;>rfl
  generalize Yr f grp locals base x B s1=gx at ihx hgs
  obtain⟨k',s',a',⟨ts',tl'⟩,l',n',g',e'⟩:=x
  simp only[cV] at ihx
  try simp only[go_sem,seval,cV]
  intro b10 hb10
  have n10k:b10≠bk:=fun e=>by have:=Zj hb10;rw[e,Zd gTk] at this;cases this
  have n10R:b10≠R:=fun e=>by have:=Zj hb10;rw[e,Za nRk,gTR] at this;cases this
  have n105:b10≠b5:=fun e=>by have:=Zj hb10;rw[e,Za n5k,gT5] at this;cases this
  try simp only[go_sem,seval,Zc n105,Za n5k,gT5]
  refine(ihx _ (by rw[Zc n10k,Zd gTk]) (by rw[Zc n10R,Za nRk,gTR]) i2).mono ?_
  rintro w S' hw
  cases gx with
  | none =>
    obtain⟨hw1,s2,hw2⟩:=hw
    rw[hw1,hw2,Zo n10k,Zx]
    try simp only[go_sem,seval]
    have hn:Z0 f grp locals base l B q=none:=by
     have:=jl (i+1) l
     rw[<- this,YB,hgs];rfl
    rw[hn]
    exact .mk (.refl _) ((hTs _).skip _) ⟨rfl,s2,rfl⟩
  | some s2 =>
    obtain⟨hw1,hw2,hw3⟩:=hw
    rw[hw1,hw2,Zo n10k,Zx]
    try simp only[go_sem,seval]
    rw[show IntKind.i64.wrap ((i:Int)+1)=((i+1:Nat):Int) from Zk xh xh]
    exact .mk (i+1,s2) ⟨by omega,hw3,hgs⟩ xS ⟨.refl _,trivial⟩ yS ((Sub.refl _).skip _)
 ·have hil:l.take i=l:=iW xh
  rw[hil] at i3
  rw[i3]
  exact .mk (.refl _) (hTs _) ⟨rfl,rfl,i2⟩):P:=e
theorem nQ(e:P:=by
 have kw:¬ (r.extract 0 n2=wO/\1<r.size/\bAt r 1=45)->∀ (_:Unit),Yk r=if r.extract 0 n2∈X0 then some (4,n2) else some (1,n2):=fun h _=>by unfold Yk;rw[gZ hs,hN,ig h]
 by_cases hO:r.extract 0 n2=wO
 ·by_cases hZ:1<r.size
  ·by_cases h45:bAt r 1=45
   ·have htok:Yk r=some (3,2):=by unfold Yk;rw[gZ hs,hN,gZ ⟨hO,hZ,h45⟩]
    try simp only[go_sem,seval,iF,G6,G3,hO,jf,jg]
    refine⟨by omega,by omega,?_⟩
    try simp only[go_sem,seval,iF,G6,G3,hO,jf,jg]
    refine⟨fun _=>⟨by omega,?_⟩,fun h=>by omega⟩
    try simp only[go_sem,seval,iF,G6,G3,h45,jf,jg]
    refine(XA r 3 2 a b6 b3 xh S G6 G3).mono ?_
    rintro r' σ' ⟨h1,h2⟩
    rw[h1,h2]
    try simp only[go_sem,seval,G4]
    refine .mk (.refl _) (hsub _) ⟨?_,rfl⟩
    simp only[Y4,htok]
   ·have kw:=kw (fun h=>h45 h.2.2) ()
    try simp only[go_sem,seval,iF,G6,G3,hO,jf,jg]
    refine⟨by omega,by omega,?_⟩
    try simp only[go_sem,seval,iF,G6,G3,hO,jf,jg]
    refine⟨fun _=>⟨by omega,?_⟩,fun h=>by omega⟩
    try simp only[go_sem,seval,iF,G6,G3,h45,jf,jg]
    refine YA.head ?_
    try simp only[go_sem,seval,iF,G6,G3,jf]
    refine⟨by omega,by omega,?_⟩
    refine(Yd X0 (r.extract 0 n2) .full 1 (.inl rfl)).use ?_
    by_cases hk:r.extract 0 n2∈X0
    ·have htok:Yk r=some (4,n2):=by rw[kw,gZ hk]
     try simp only[go_sem,seval,iF,G6,G3,hk,iT]
     refine(XA r 4 n2 a b6 b3 xh S G6 G3).mono ?_
     rintro r' σ' ⟨h1,h2⟩
     rw[h1,h2]
     try simp only[go_sem,seval,G4]
     refine .mk (.refl _) (hsub _) ⟨?_,rfl⟩
     simp only[Y4,htok]
    ·have htok:Yk r=some (1,n2):=by rw[kw,ig hk]
     try simp only[go_sem,seval,iF,G6,G3,hk,iV]
     refine(XA r 1 n2 a b6 b3 xh S G6 G3).mono ?_
     rintro r' σ' ⟨h1,h2⟩
     rw[h1,h2]
     try simp only[go_sem,seval,G4]
     refine .mk (.refl _) (hsub _) ⟨?_,rfl⟩
     simp only[Y4,htok]
  ·have kw:=kw (fun h=>hZ h.2.1) ()
   try simp only[go_sem,seval,iF,G6,G3,hO,jf,jg]
   refine⟨by omega,by omega,?_⟩
   try simp only[go_sem,seval,iF,G6,G3,hO,jf,jg]
   refine⟨fun h=>by omega,fun _=>?_⟩
   try simp only[go_sem,seval,iF,G6,G3,jf,jg]
   refine YA.head ?_
   try simp only[go_sem,seval,iF,G6,G3,jf]
   refine⟨by omega,by omega,?_⟩
   refine(Yd X0 (r.extract 0 n2) .full 1 (.inl rfl)).use ?_
   by_cases hk:r.extract 0 n2∈X0
   ·have htok:Yk r=some (4,n2):=by rw[kw,gZ hk]
    try simp only[go_sem,seval,iF,G6,G3,hk,iT]
    refine(XA r 4 n2 a b6 b3 xh S G6 G3).mono ?_
    rintro r' σ' ⟨h1,h2⟩
    rw[h1,h2]
    try simp only[go_sem,seval,G4]
    refine .mk (.refl _) (hsub _) ⟨?_,rfl⟩
    simp only[Y4,htok]
   ·have htok:Yk r=some (1,n2):=by rw[kw,ig hk]
    try simp only[go_sem,seval,iF,G6,G3,hk,iV]
    refine(XA r 1 n2 a b6 b3 xh S G6 G3).mono ?_
    rintro r' σ' ⟨h1,h2⟩
    rw[h1,h2]
    try simp only[go_sem,seval,G4]
    refine .mk (.refl _) (hsub _) ⟨?_,rfl⟩
    simp only[Y4,htok]
 ·have kw:=kw (fun h=>hO h.1) ()
  try simp only[go_sem,seval,iF,G6,G3,hO,jf,jg]
  refine⟨by omega,by omega,?_⟩
  try simp only[go_sem,seval,iF,G6,G3,hO,jf,jg]
  refine YA.head ?_
  try simp only[go_sem,seval,iF,G6,G3,jf]
  refine⟨by omega,by omega,?_⟩
  refine(Yd X0 (r.extract 0 n2) .full 1 (.inl rfl)).use ?_
  by_cases hk:r.extract 0 n2∈X0
  ·have htok:Yk r=some (4,n2):=by rw[kw,gZ hk]
   try simp only[go_sem,seval,iF,G6,G3,hk,iT]
   refine(XA r 4 n2 a b6 b3 xh S G6 G3).mono ?_
   rintro r' σ' ⟨h1,h2⟩
   rw[h1,h2]
   try simp only[go_sem,seval,G4]
   refine .mk (.refl _) (hsub _) ⟨?_,rfl⟩
   simp only[Y4,htok]
  ·have htok:Yk r=some (1,n2):=by rw[kw,ig hk]
   try simp only[go_sem,seval,iF,G6,G3,hk,iV]
   refine(XA r 1 n2 a b6 b3 xh S G6 G3).mono ?_
   rintro r' σ' ⟨h1,h2⟩
   rw[h1,h2]
   try simp only[go_sem,seval,G4]
   refine .mk (.refl _) (hsub _) ⟨?_,rfl⟩
   simp only[Y4,htok]):P:=e
theorem nR(e:P:=by
 try simp only[go_sem,seval,cH,cF,cG,io,fL,fS,fA,fn,fs,fl,fg,fe,iT,iV,jm]
 rw[ig yO]
 exact .mk (.refl _) ((Sub.refl _).skip _) ⟨rfl,sn,(Zw gk).symm⟩):P:=e
theorem nS(e:P:=by
 have f9:Zm S2 b9:=hb9
 have f9S:Zm S b9:=k2.fresh (fun b hb=>by obtain⟨c,hc⟩:=h2.mkr.own b hb;rw[hc];rfl) f9
 have h3:=h2.cons f9 (.cells [vi k,vi n,vs s,.list .full 0 []])
 have k3:=(k2.cons f9 (.cells [vi k,vi n,vs s,.list .full 0 []])).tip0 (v:=.list .full 0 []) rfl
 have b9O:¬ sO bm bs gv vt vl b9:=fun e=>by obtain⟨c,hc⟩:=h2.own b9 e;rw[Zj f9] at hc;cases hc
 have n89:b8≠b9:=Zv e8' f9
 have f89:=h2.mkr.has.fresh f9
 refine Zp (mu:=[]) (dr:=[(6,15,17),(12,8,9)]) [11,68,69,70,71,72,73,74,75,76,77,78,79,80,81,82] (fun x:Nat×AV×Store=>[(68,vi x.1)]) (fun x=>x.2.2)
  (fun x=>x.1<=l.length/\st.m.n+1+cP (cK (l.take x.1))<=8000/\SK σ bm bs gv vt vl (st.add (1+cP (cK (l.take x.1)))) x.2.2/\x.2.2.get b9=some (.cells [vi k,vi n,vs s,x.2.1])/\x.2.2.get b8=some (.cells [vi 0,vi 0,.val (.string { data:=#[] }),.list .full 0 []]) /\
   LV σ x.2.2 x.2.1 4 (cJ (Xx bd qf (l.take x.1) i))/\Kp (mO bm gv) (Or (mO bm gv) (Tp x.2.1)) S x.2.2) (fun x=>l.length-x.1) (0,.list .full 0 [],_) xy
  ⟨by omega,by simp only[List.take_zero,cK,cP];omega,h3,Ze _ _ _,by dsimp only;rw[Zc n89.symm];exact e8',LV.nil _ _ _,k3⟩ ⟨.refl _,trivial⟩ (.refl _) ?_
 clear h3 k3 h2 k2 e8' hQ2
 rintro⟨j,v,T⟩ ⟨hj,hcn,hT,t9,t8,tL,tK⟩
 dsimp only at hj hcn hT t9 t8 tL tK ⊢
 have x0:(0<=(j:Int))=True:=iS xh
 by_cases c:j<l.length
 ·have x1:((j:Int)<(l.length:Int))=True:=iS xh
  obtain⟨a,ha⟩:∃ t,l[j]?=some t:=⟨l[j],iO c⟩
  have hma:=iG ha
  have hka:=hkid a hma
  have gt:(cJ l)[j]?=some a.emb:=by rw[cW,jp,ha];rfl
  have hw:IntKind.i64.wrap ((j:Int)+1)=((j+1:Nat):Int):=Zk xh xh
  have hta:l.take (j+1)=l.take j++[a]:=by rw[jh,ha];rfl
  have htk:cJ (Xx bd qf (l.take (j+1)) i)=cJ (Xx bd qf (l.take j) i)++[(teS bd qf a i).emb]:=by rw[hta];simp[cW,Xv]
  have hnd2:cP (cK (l.take (j+1)))=cP (cK (l.take j))+a.shape.nds:=by rw[hta,cS,jv,ZL];simp[cP,cS]
  have hnd3:cP (cK (l.take (j+1)))<=cP (cK l):=by
   have e2:=YO (cK l) (j+1)
   rwa [show(cK l).take (j+1)=cK (l.take (j+1)) by rw[cS,cS,jx]] at e2
  have iha:=ih a hma i gv vt vl (st.add (1+cP (cK (l.take j))))
  have hsa:=hs2 a hma
  generalize teS bd qf a i=ta at iha htk
  obtain⟨ka,na,sa,la⟩:=a
  obtain⟨kt,nt,zt,lt⟩:=ta
  simp only[cO] at gt iha htk
  try simp only[go_sem,seval,cF,x0,x1,gt,iT,iF,jq,jr,jt]
  intro b11 hb11
  obtain⟨U,hU⟩:∃ U:Store,U=(b11,AObj.cells [vi ka,vi na,vs sa,.list .none 4 (cJ la)])::T:=⟨_,rfl⟩
  have u11:U.get b11=some (.cells [vi ka,vi na,vs sa,.list .none 4 (cJ la)]):=by rw[hU];exact Ze _ _ _
  have u9:U.get b9=some (.cells [vi k,vi n,vs s,v]):=by rw[hU,Zg hb11 (by rw[t9];rfl)];exact t9
  have u8:U.get b8=some (.cells [vi 0,vi 0,.val (.string { data:=#[] }),.list .full 0 []]):=by rw[hU,Zg hb11 (by rw[t8];rfl)];exact t8
  have uT:=hT.cons hb11 (.cells [vi ka,vi na,vs sa,.list .none 4 (cJ la)])
  have uL:=tL.cons hb11 (.cells [vi ka,vi na,vs sa,.list .none 4 (cJ la)])
  have uK:=tK.cons hb11 (.cells [vi ka,vi na,vs sa,.list .none 4 (cJ la)])
  have b11O:¬ mO bm gv b11:=fun e=>by obtain⟨c,hc⟩:=hT.mkr.own b11 e;rw[Zj hb11] at hc;cases hc
  rw[<- hU] at uT uL uK ⊢
  clear hU hb11 hT t9 t8 tL tK
  try simp only[go_sem,seval,u9,u11,uL.one,uL.cells]
  refine(iha U uT (hQ.kp uK.drop h.mkr.own) hsa xh).mono ?_
  rintro r U2 (⟨hc2,rfl,hT2,hk2⟩|⟨hc2,rfl,hH2,hP2⟩)
  ·have w9:=(hk2 _ _ u9 (fun e=>b9O (.inl e))).1
   have w8:=(hk2 _ _ u8 (fun e=>b8O (.inl e))).1
   have w11:=(hk2 _ _ u11 b11O).1
   have wL:=uL.kp hk2 uT.mkr.own
   have wK:=uK.call hk2
   try simp only[go_sem,seval,w9,w11,wL.one,wL.cells]
   refine⟨rfl,wL.appT rfl xj yE rfl xf hT2.mkr.has (fun v' S' hv' hT' hS'=>?_)⟩
   have kc:=hT'.kc wL
   have x9:=kc _ _ w9
   have x8:=kc _ _ w8
   have hT3:=hT2.kc kc hS'
   rw[dV,show(1+(cP (cK (l.take j)):Int)+(Tm.mk ka na sa la).shape.nds)=1+(cP (cK (l.take (j+1))):Int) by rw[hnd2];omega] at hT3
   try simp only[go_sem,seval,x9,hw,hv'.one,hv'.cells]
   exact .mk (j+1,v',S'.set b9 (.cells [vi k,vi n,vs s,v'])) ⟨by omega,by simp only[GSt.add,MSt.add] at hc2;dsimp only;omega,hT3.set b9O f89 _,Zd x9,by dsimp only;rw[Za n89];exact x8,by dsimp only;rw[htk];exact hv'.set x9 xf _,(wK.tn hT').set (.inr f9S) _⟩ xX ⟨.refl _,trivial⟩ yS (.refl _)
  ·try simp only[go_sem,seval]
   intro fr'
   try simp only[go_sem,seval]
   exact .mk (.refl _) (.inr ⟨by simp only[GSt.add,MSt.add] at hc2;omega,rfl,hH2,uK.pn hP2⟩)
 ·have x1:((j:Int)<(l.length:Int))=False:=iU xh
  rw[show l.take j=l from iW xh] at tL hT hcn
  try simp only[go_sem,seval,cF,x0,x1,t9,t8,iV,tL.one,tL.cells]
  exact .mk (Wkl.agg (show Wkl [vi k,vi n,vs s,v] [vi k,vi n,vs s,.list .none 4 (cJ (Xx bd qf l i))] from⟨.refl _,.refl _,.refl _,tL.wk,trivial⟩)) (.refl _) (.inl ⟨by omega,rfl,hT.set b8O (h.mkr.has.fresh f8) _,tK.drop.set (.inr f8) _⟩)):P:=e
theorem nU(e:P:=by
 refine Zp (mu:=[]) (dr:=[]) [6,8,24,25,26,27,28,29,30,31,32,33] (fun x:Nat×Store=>[(24,vi x.1)]) (fun x=>x.2)
  (fun x=>x.1<=a.length/\I (q++(ZK bd qf (a.take x.1) (i+1))) x.2/\Yb own σ x.2) (fun x=>a.length-x.1) (0,σ) xy ⟨by simp,by simpa[ZK] using hI,hkb⟩ ⟨.refl _,trivial⟩ (.refl _) ?_
 rintro⟨j,S⟩ ⟨hj,hIj,hkS⟩
 dsimp only at hj hIj hkS
 by_cases hj2:(j:Int)<(a.length:Int)
 ·have x1:=iS hj2
  have x0:(0<=(j:Int))=True:=iS xh
  obtain⟨t,ht⟩:∃ t,a[j]?=some t:=⟨a[j]' xh,iO xh⟩
  have g:(cJ a)[j]?=some t.emb:=by rw[cW,jp,ht];rfl
  have hw3:IntKind.i64.wrap ((j:Int)+1)=((j+1:Nat):Int):=Zk xh xh
  have hma:=iG ht
  have hka:=harg t hma
  have gyS:=hkS _ _ gy ny xf
  have gtS:=hkS _ _ gt nt xf
  obtain⟨t1,t2⟩:=X3 bd qf (i+1) ht
  have iha:=hterm t (i+1)
  have hsa:=hs1' t hma
  have hqn2:=je List.length t2
  simp only[ii] at hqn2
  generalize Wz bd qf t (i+1)=ta at iha t1 t2 hqn2
  obtain⟨ka,na,sa,la⟩:=t
  simp only[cO] at g iha
  try simp only[go_sem,seval,cF,x0,x1,g,iT,iF,jq,jr,jt]
  intro b9 hb9
  have gt9:=(Zg hb9 xI (.cells [vi ka,vi na,vs sa,.list .none 4 (cJ la)])).trans gtS
  have gy9:=(Zg hb9 xH (.cells [vi ka,vi na,vs sa,.list .none 4 (cJ la)])).trans gyS
  have hI9:=hy.cons _ _ _ (.cells [vi ka,vi na,vs sa,.list .none 4 (cJ la)]) hIj hb9
  have hk9:Yb own σ ((b9,.cells [vi ka,vi na,vs sa,.list .none 4 (cJ la)])::S):=fun k x h1 h2 h3=>by rw[Zg hb9 yu];exact hkS k x h1 h2 h3
  try simp only[go_sem,seval,gt9,Wd]
  refine(iha _ _ hsa xh yv hI9 gy9 gt9).mono ?_
  rintro r S2 ⟨hk2,(⟨rfl,h2⟩|⟨rfl,p,s2,hp,hT⟩)⟩
  ·try simp only[go_sem,seval,hw3]
   exact .mk (j+1,S2) ⟨by dsimp only;omega,by dsimp only;rw[t1];simpa[List.append_assoc] using h2,hk9.trans hk2⟩ xX ⟨.refl _,trivial⟩ yS (.refl _)
  ·try simp only[go_sem,seval]
   refine .mk (.refl _) (.refl _) ⟨hk9.trans hk2,.inr ⟨rfl,(ZK bd qf (a.take j) (i+1)++p),s2++ZK bd qf (a.drop (j+1)) (i+1)++Ye bd qf l (i+1),?_,?_⟩⟩
   ·rw[t2,hp];simp[ju]
   ·simpa[ju] using hT
 ·have x1:=iU hj2
  try simp only[go_sem,seval,cF,x1,iV]
  rw[iW xh] at hIj
  clear x1
  refine Zp (mu:=[]) (dr:=[]) [6,10,37,38,39,40,41,42,43,44,45,46] (fun x:Nat×Store=>[(37,vi x.1)]) (fun x=>x.2)
   (fun x=>x.1<=l.length/\I (q++(ZK bd qf a (i+1)++Ye bd qf (l.take x.1) (i+1))) x.2/\Yb own σ x.2) (fun x=>l.length-x.1) (0,S) xy ⟨by simp,by simpa[Ye] using hIj,hkS⟩ ⟨.refl _,trivial⟩ (.refl _) ?_
  clear hj hj2 hIj hkS
  rintro⟨j,S⟩ ⟨hj,hIj,hkS⟩
  dsimp only at hj hIj hkS
  by_cases hj2:(j:Int)<(l.length:Int)
  ·have x1:=iS hj2
   have x0:(0<=(j:Int))=True:=iS xh
   obtain⟨t,ht⟩:∃ t,l[j]?=some t:=⟨l[j]' xh,iO xh⟩
   have g:(cN l)[j]?=some t.emb:=by rw[dz,jp,ht];rfl
   have hw3:IntKind.i64.wrap ((j:Int)+1)=((j+1:Nat):Int):=Zk xh xh
   have hma:=iG ht
   have hka:=hkid t hma
   have gyS:=hkS _ _ gy ny xf
   have gtS:=hkS _ _ gt nt xf
   have gfS:=hkS _ _ gf nf xf
   obtain⟨t1,t2⟩:=Qi bd qf (i+1) ht
   have iha:=ih t hma (i+1)
   have hsa:=hs2 t hma
   have hqn2:=je List.length t2
   simp only[ii] at hqn2
   generalize YQ bd qf t (i+1)=ta at iha t1 t2 hqn2
   obtain⟨ka,na,sa,⟨tsa,tla⟩,la⟩:=t
   simp only[cM] at g iha
   try simp only[go_sem,seval,cU,x0,x1,g,iT,iF,jq,jr,jt]
   intro b9 hb9
   obtain⟨Q9,hQ9⟩:∃ Q9:AObj,Q9=.cells [vi ka,vs na,.list .none 4 (cJ sa),vs tsa,.list .none 2 (cI tla),.list .none 6 (cN la)]:=⟨_,rfl⟩
   have gt9:=(Zg hb9 xI Q9).trans gtS
   have gy9:=(Zg hb9 xH Q9).trans gyS
   have gf9:=(Zg hb9 (by rw[gfS];rfl) Q9).trans gfS
   have hI9:=hy.cons _ _ _ Q9 hIj hb9
   have hk9:Yb own σ ((b9,Q9)::S):=fun k x h1 h2 h3=>by rw[Zg hb9 yu];exact hkS k x h1 h2 h3
   rw[hQ9] at gt9 gy9 gf9 hI9 hk9
   try simp only[go_sem,seval,gf9,Sb]
   refine(iha _ _ hsa xh yv hI9 gy9 gt9 gf9).mono ?_
   rintro r S2 ⟨hk2,(⟨rfl,h2⟩|⟨rfl,p,s2,hp,hT⟩)⟩
   ·try simp only[go_sem,seval,hw3]
    exact .mk (j+1,S2) ⟨by dsimp only;omega,by dsimp only;rw[t1];simpa[List.append_assoc] using h2,hk9.trans hk2⟩ xX ⟨.refl _,trivial⟩ yS (.refl _)
   ·try simp only[go_sem,seval]
    refine .mk (.refl _) (.refl _) ⟨hk9.trans hk2,.inr ⟨rfl,(ZK bd qf a (i+1)++(Ye bd qf (l.take j) (i+1)++p)),s2++Ye bd qf (l.drop (j+1)) (i+1),?_,?_⟩⟩
    ·rw[t2,hp];simp[ju]
    ·simpa[ju] using hT
  ·have x1:=iU hj2
   try simp only[go_sem,seval,cU,x1,iV]
   rw[iW xh] at hIj
   exact .mk (.refl _) (.refl _) ⟨hkS,.inl ⟨rfl,hIj⟩⟩):P:=e
theorem nW(e:P:=by
 refine Zp (mu:=[]) (dr:=[]) [7,12,72,73,74,75,76,77,78,79,80,81] (fun x:Nat×Store=>[(72,vi x.1)]) (fun x=>x.2)
  (fun x=>x.1<=l.length/\I (q++([]++ZK bd qf (l.take x.1) i)) x.2/\Yb own σ x.2) (fun x=>l.length-x.1) (0,σ) xy ⟨by simp,by simpa[ZK] using hI',hkb⟩ ⟨.refl _,trivial⟩ (.refl _) ?_
 clear hI' hkb
 rintro⟨j,S⟩ ⟨hj,hIj,hkS⟩
 dsimp only at hj hIj hkS
 by_cases hj2:(j:Int)<(l.length:Int)
 ·have x1:=iS hj2
  have x0:(0<=(j:Int))=True:=iS xh
  obtain⟨a,ha⟩:∃ a,l[j]?=some a:=⟨l[j]' xh,iO xh⟩
  have g:(cJ l)[j]?=some a.emb:=by rw[cW,jp,ha];rfl
  have hw3:IntKind.i64.wrap ((j:Int)+1)=((j+1:Nat):Int):=Zk xh xh
  have hma:=iG ha
  have hka:=hkid a hma
  have gyS:=hkS _ _ gy ny xf
  have gtS:=hkS _ _ gt nt xf
  obtain⟨t1,t2⟩:=X3 bd qf i ha
  have iha:=ih a hma i
  have hsa:=hs2 a hma
  have hqn2:=je List.length t2
  simp only[ii] at hqn2
  generalize Wz bd qf a i=ta at iha t1 t2 hqn2
  obtain⟨ka,na,sa,la⟩:=a
  simp only[cO] at g iha
  try simp only[go_sem,seval,cF,x0,x1,g,iT,iF,jq,jr,jt]
  intro b9 hb9
  have gt9:=(Zg hb9 xI (.cells [vi ka,vi na,vs sa,.list .none 4 (cJ la)])).trans gtS
  have gy9:=(Zg hb9 xH (.cells [vi ka,vi na,vs sa,.list .none 4 (cJ la)])).trans gyS
  have hI9:=hy.cons _ _ _ (.cells [vi ka,vi na,vs sa,.list .none 4 (cJ la)]) hIj hb9
  have hk9:Yb own σ ((b9,.cells [vi ka,vi na,vs sa,.list .none 4 (cJ la)])::S):=fun k x h1 h2 h3=>by rw[Zg hb9 yu];exact hkS k x h1 h2 h3
  try simp only[go_sem,seval,gt9,Wd]
  refine(iha _ _ hsa xh yv hI9 gy9 gt9).mono ?_
  rintro r S2 ⟨hk2,(⟨rfl,h2⟩|⟨rfl,p,s2,hp,hT⟩)⟩
  ·try simp only[go_sem,seval,hw3]
   exact .mk (j+1,S2) ⟨by dsimp only;omega,by dsimp only;rw[t1];simpa[List.append_assoc] using h2,hk9.trans hk2⟩ xX ⟨.refl _,trivial⟩ yS (.refl _)
  ·try simp only[go_sem,seval]
   refine .mk (.refl _) (.refl _) ⟨hk9.trans hk2,.inr ⟨rfl,[]++(ZK bd qf (l.take j) i++p),s2++ZK bd qf (l.drop (j+1)) i,?_,?_⟩⟩
   ·rw[t2,hp];simp[ju]
   ·simpa[ju] using hT
 ·have x1:=iU hj2
  try simp only[go_sem,seval,cF,x1,iV]
  rw[iW xh] at hIj
  exact .mk (.refl _) (.refl _) ⟨hkS,.inl ⟨rfl,hIj⟩⟩):P:=e
theorem nX(e:P:=by
 rintro r' σ' ⟨h1,h2⟩
 rw[h1,h2]
 try simp only[go_sem,seval,G4]
 refine .mk (.refl _) (hsub _) ⟨?_,rfl⟩
 simp only[Y4,htok]):P:=e
theorem nY(e:P:=by
 have z:=iS hkd
 rw[jy hkd,jz]
 clear hk hkd
 try simp only[go_sem,seval,z,iT,iV,jA,jB]
 refine Zp (mu:=[3,20]) (dr:=[(12,7,0),(17,15,0),(20,13,0)]) [9,46,47,48,49,50,51,52,53,54,55,56,57,58,59,60,61,62,63,64,65] (fun x:Nat×Store=>[(46,vi x.1)]) (fun x=>x.2)
  (fun x=>x.1<=n/\x.2.get b3=S.get b3/\x.2.get bm=some (.cells ((mxS ga x.1 m).map vb))/\Has σ x.2) (fun x=>n-x.1) (0,S) xy ⟨by omega,rfl,by rw[MJ];exact gm,jH⟩ ⟨.refl _,trivial⟩ (.refl _) ?_
 rintro⟨j,T⟩ ⟨q1,q3,q4,qH⟩
 dsimp only at q1 q3 q4 qH ⊢
 rw[g3] at q3
 have x0:(0<=(j:Int))=True:=iS xh
 by_cases c:j<n
 ·have x1:((j:Int)<(n:Int))=True:=iS xh
  have c':j<m.length:=by omega
  obtain⟨b,hb⟩:∃ b,m[j]?=some b:=⟨m[j],iO c'⟩
  have hdr:=TV (Ig (a:=ga) hb)
  have hst:=ML (a:=ga) hb
  have hw2:IntKind.i64.wrap ((j:Int)+1)=((j+1:Nat):Int):=Zk xh xh
  have ln:((mxS ga j m).map vb).length=n:=by rw[io,U5];exact j3
  have hcl:=fun(W:Store) (b9:Nat) (h9:W.get b9=some (.cells [vi j]))=>TX W ga .none 4 (.inl rfl) (.func (.func 159) #[] #[.pointer (some ⟨b9,0,none⟩)]) (fun t=>hbS t j) (fun t _=>by rw[Z4];exact J6 b9 j t W h9)
  have hsp:∀ (r:Bool),r=(b || ga.any fun t=>hbS t j)->List.take (j * 1) ((mxS ga j m).map vb)++AV.val (Value.bool r)::List.drop (j * 1+1) ((mxS ga j m).map vb)=(mxS ga (j+1) m).map vb:=fun r hr=>by
   show Yn ((mxS ga j m).map vb) (j * 1) [vb r]=_
   rw[jC,RE _ _ _ (by rw[U5];exact c'),hr,hst]
  try simp only[go_sem,seval,x0,x1,iT,iV]
  intro b9 hb9
  obtain⟨U,hU⟩:∃ U:Store,U=(b9,AObj.cells [AV.val (Value.int IntKind.i64 (j:Int))])::T:=⟨_,rfl⟩
  have u3:U.get b3=some (.cells [vi k,vs s,.list .none 4 (cJ a),vs ts,.list .none 2 (cI tl),.list .none 6 [[vi gk,vs gs,.list .none 4 (cJ ga),vs gt,.list .none 2 (cI gu),.list .none 6 (cN gl)],[vi hk1,vs hs1,.list .none 4 (cJ ha1),vs ht1,.list .none 2 (cI hu1),.list .none 6 (cN hl1)]]]):=by rw[hU,Zg hb9 (by rw[q3];rfl)];exact q3
  have u4:U.get bm=some (.cells ((mxS ga j m).map vb)):=by rw[hU,Zg hb9 (by rw[q4];rfl)];exact q4
  have u9:U.get b9=some (.cells [vi j]):=by rw[hU];exact Ze _ _ _
  have uH:Has σ U:=by rw[hU];exact qH.cons _
  rw[<- hU]
  clear hU hb9 q3 q4 qH hst
  generalize ga.any (fun t=>hbS t j)=qa at hcl hsp
  cases b with
  | true =>
    have hsp1:=hsp true rfl
    try simp only[go_sem,seval,u3,u4,u9,hdr,ln,x0,x1,hsp1,hw2,iF,jt,jq,jr,iT,iV]
    refine⟨by omega,?_⟩
    refine .mk (j+1,U.set bm (.cells ((mxS ga (j+1) m).map vb))) ⟨by omega,by dsimp only;rw[Za n3m,u3,g3],Zd u4,uH.set fm _⟩ xh ⟨.refl _,trivial⟩ yS (.refl _)
  | false =>
    try simp only[go_sem,seval,u3,u4,u9,hdr,ln,x0,x1,iF,jt,jq,jr,iT,iV]
    refine OU.mk (v:=vb qa) (fun S' hs=>by rw[Z4];exact hcl S' b9 (hs _ _ u9)) ?_
    have hsp1:=hsp qa xf
    try simp only[go_sem,seval,u3,u4,u9,hdr,ln,x0,x1,hsp1,hw2,iF,jt,jq,jr,iT,iV]
    refine⟨by omega,?_⟩
    refine .mk (j+1,U.set bm (.cells ((mxS ga (j+1) m).map vb))) ⟨by omega,by dsimp only;rw[Za n3m,u3,g3],Zd u4,uH.set fm _⟩ xh ⟨.refl _,trivial⟩ yS (.refl _)
 ·have x1:((j:Int)<(n:Int))=False:=iU xh
  have jn:j=m.length:=by omega
  rw[jn] at q4
  try simp only[go_sem,seval,q3,x0,x1,hw,iT,iV,jq,jr,jt]
  have eh:Fm.emb (.mk hk1 hs1 ha1 (.mk ht1 hu1) hl1)=[vi hk1,vs hs1,.list .none 4 (cJ ha1),vs ht1,.list .none 2 (cI hu1),.list .none 6 (cN hl1)]:=by simp only[cM]
  rw[<- eh]
  refine .mk (.mk hk1 hs1 ha1 (.mk ht1 hu1) hl1,mxS ga m.length m,kc+1,T.set b3 (.cells (Fm.emb (.mk hk1 hs1 ha1 (.mk ht1 hu1) hl1)))) ⟨by rw[decide_eq_true (by omega:0<kc+1)],g1,by rw[U5];exact j3,⟨d',by dsimp only;omega,g2⟩,Zd q3,by dsimp only;rw[Za nm3];exact q4,qH.set f3 _⟩ hsz ⟨.refl _,trivial⟩ yV (.refl _)):P:=e
theorem nZ(e:P:=by
 refine Zp (mu:=[]) (dr:=[]) [6,41,42,43,44,45,46,47,48] (fun x:Nat×Int=>[(41,vi x.1)]) (fun x=>σ.set be (.cells [vi x.2]))
  (fun x=>x.1<=l.length/\Uy (l.take x.1)=true/\x.2=(if Vz types (l.take x.1)=true then e0 else 40)) (fun x=>l.length-x.1) (0,e0) xy ⟨by simp,by simp[Uy],by simp[Vz]⟩ ⟨.refl _,trivial⟩ (by first|(rw[he0];exact .refl _)|(rw[he0,V1 ge];exact .refl _)) ?_
 rintro⟨i,x2⟩ ⟨hi,hwf,hx2⟩
 dsimp only at hi hwf hx2
 try simp only[go_sem,seval,cG]
 refine⟨fun hi2=>⟨by omega,hi2,fun c hc=>?_⟩,fun hi2=>?_⟩
 ·rw[iF] at hc
  obtain⟨a,ha,rfl⟩:=dJ hc
  have iha:=ih a (iG ha) x2 (σ.set be (.cells [vi x2])) (by rw[Za n1];exact gp) (Zd ge) (by rw[Za n2];exact gw)
  obtain⟨sa,la⟩:=a
  try simp only[go_sem,seval,cQ]
  intro b9 hb9
  try simp only[go_sem,seval,cQ,hb9,n2,gw,ctV]
  refine(iha.sub (.cons _ _)).mono ?_
  have hsp:=Z6 ha
  rintro r _ ⟨e',rfl,hr⟩
  rw[Zx]
  rcases hr with⟨hw,rfl,he'⟩|⟨hw,rfl⟩
  ·try simp only[go_sem,seval]
   rw[show IntKind.i64.wrap ((i:Int)+1)=((i+1:Nat):Int) from Zk xh xh]
   refine .mk (i+1,e') ⟨by dsimp only;omega,?_,?_⟩ xX ⟨.refl _,trivial⟩ yS (.refl _)
   ·rw[jh,ha,jj,VE,hwf];simp[Uy,hw]
   ·rw[jh,ha,jj,Qt,he',hx2]
    cases Vz types (l.take i)<;>cases h2:okT types (.mk sa la)<;>simp[Vz,h2]
  ·try simp only[go_sem,seval]
   refine .mk (.refl _) ⟨e',rfl,.inr ⟨?_,rfl⟩⟩
   rw[wfT,hhead,hsp,VE]
   simp[Uy,hw]
 ·have hil:l.take i=l:=iW xh
  rw[hil] at hwf hx2
  exact .mk (.refl _) (.refl _) ⟨x2,rfl,.inl ⟨by rw[wfT,hhead,hwf];rfl,rfl,hfin _ hx2⟩⟩):P:=e
theorem oa(e:P:=by
 refine(hf i e he hb).mono ?_
 rintro r _ ⟨rfl,rfl⟩
 try simp only[go_sem,seval]
 cases hbi:b i with
 | true =>
   try simp only[go_sem,seval]
   exact .mk (.refl _) (.refl _) (.inl ⟨i,by omega,hbi,hb,rfl,rfl⟩)
 | false =>
   try simp only[go_sem,seval]
   have hw64:IntKind.i64.wrap ((i:Int)+1)=((i+1:Nat):Int):=Zk xh xh
   rw[hw64]
   refine .mk (i+1) ⟨by omega,fun j hj=>?_⟩ xh ⟨.refl _,trivial⟩ ?_ (.refl _)
   ·by_cases e:j=i
    ·rw[e];exact hbi
    ·exact hb j xh
   ·repeat refine Zf.put rfl ?_
    exact Zf.turn _ rfl):P:=e
theorem ob(e:P:=by
 try simp only[go_sem,seval,G4]
 refine .mk (.refl _) (hsub _) ⟨?_,rfl⟩
 simp only[Y4,htok]):P:=e
theorem od(e:P:=by exact .mk (.refl _) ((Sub.refl _).skip _) ⟨rfl,sn,(Zw gk).symm⟩):P:=e
theorem oe(e:P:=by
 try simp only[go_sem,seval,hw3]
 exact .mk (j+1,S2) ⟨by dsimp only;omega,by dsimp only;rw[t1];simpa[List.append_assoc] using h2,hk9.trans hk2⟩ xX ⟨.refl _,trivial⟩ yS (.refl _)):P:=e
theorem oh(e:P:=by
 try simp only[go_sem,seval]
 intro b2 hb2 b3 hb3
 have f2:Zm σ b2:=hb2
 have f3:Zm σ b3:=hb3.2
 have n23:b2≠b3:=hb3.1
 have n32:=n23.symm
 refine Zp (mu:=[]) (dr:=[(5,5,0)]) [5,12,13,14,15,16,17,18,19,20,21,22,23] (fun x:Nat×AV×Store=>[(12,vi x.1)]) (fun x=>x.2.2)
  (fun x=>x.1<=l.length/\x.2.2.get b3=some (.cells [vs s,x.2.1])/\(∃ y1 y2,x.2.2.get b2=some (.cells [y1,y2]))/\LV σ x.2.2 x.2.1 2 (cI (l.take x.1))/\Has σ x.2.2) (fun x=>l.length-x.1)
  (0,.list .full 0 [],_) xy ⟨by omega,Ze _ _ _,⟨_,_,by dsimp only;rw[Zc n32];exact Ze _ _ _⟩,LV.nil _ _ _,((Has.refl σ).cons _).cons _⟩ ⟨.refl _,trivial⟩ (.refl _) ?_
 rintro⟨i,v,S⟩ ⟨hi,g3,⟨y1,y2,g2⟩,iL,iH⟩
 dsimp only at hi g3 g2 iL iH ⊢
 have x0:(0<=(i:Int))=True:=iS xh
 by_cases c:i<l.length
 ·have x1:((i:Int)<(l.length:Int))=True:=iS xh
  obtain⟨t,ht⟩:∃ t,l[i]?=some t:=⟨l[i],iO c⟩
  have hc:=ih t (iG ht)
  have gt:(cI l)[i]?=some t.emb:=by rw[di,jp,ht];rfl
  have hw:IntKind.i64.wrap ((i:Int)+1)=((i+1:Nat):Int):=Zk xh xh
  have htk:cI (l.take (i+1))=cI (l.take i)++[t.emb]:=by simp[di,jh,ht]
  obtain⟨zt,lt⟩:=t
  simp only[cQ] at hc gt htk
  try simp only[go_sem,seval,cG,x0,x1,gt,g3,g2,iT,iF,jq,jr,jt,iL.one,iL.cells]
  intro b5 hb5
  obtain⟨U,hU⟩:∃ U:Store,U=(b5,AObj.cells [AV.val (Value.string zt),AV.list Rt.none 2 (cI lt)])::S:=⟨_,rfl⟩
  have u3:U.get b3=some (.cells [vs s,v]):=by rw[hU,Zg hb5 (by rw[g3];rfl)];exact g3
  have u2:U.get b2=some (.cells [y1,y2]):=by rw[hU,Zg hb5 xG];exact g2
  have u5:U.get b5=some (.cells [vs zt,.list .none 2 (cI lt)]):=by rw[hU];exact Ze _ _ _
  have uL:LV σ U v 2 (cI (l.take i)):=by rw[hU];exact iL.cons hb5 _
  have uH:Has σ U:=by rw[hU];exact iH.cons _
  rw[<- hU]
  clear hU hb5 g3 g2 iL iH
  try simp only[go_sem,seval,u3,u5,uL.one,uL.cells]
  refine hc.head ?_
  try simp only[go_sem,seval,u3,u5,uL.one,uL.cells]
  refine⟨rfl,uL.append rfl xj (by rw[cG,ip];simp only[ij,im];omega) rfl xf uH (fun v' S' hv' hkp hS'=>?_)⟩
  have v3:=hkp _ _ u3 xf
  have v2:=hkp _ _ u2 xf
  try simp only[go_sem,seval,v3,hw,hv'.one,hv'.cells]
  exact .mk (i+1,v',S'.set b3 (.cells [vs s,v'])) ⟨by omega,Zd v3,⟨y1,y2,by dsimp only;rw[Za n23];exact v2⟩,by dsimp only;rw[htk];exact hv'.set v3 xf _,hS'.set f3 _⟩ xh ⟨.refl _,trivial⟩ yS (.refl _)
 ·have x1:((i:Int)<(l.length:Int))=False:=iU xh
  rw[show l.take i=l from iW xh] at iL
  try simp only[go_sem,seval,cG,x0,x1,g3,g2,iV,iL.one,iL.cells]
  exact .mk (Wkl.agg (show Wkl [vs s,v] [vs s,.list .none 2 (cI l)] from⟨.refl _,iL.wk,trivial⟩)) ((iH.set f2 _).sub hnd) ⟨rfl,rfl⟩):P:=e
theorem oi(e:P:=by
 refine .seq (Zn (mu:=[]) (dr:=[]) xy _ xy _ _ _ ?_)
 try simp only[go_sem,seval]
 rw[show IntKind.i64.wrap ((m:Int)+1)=((m+1:Nat):Int) from Zk xh xh]
 refine .seq (.seq (Zn (mu:=[]) (dr:=[]) xy _ xy _ _ _ ?_))
 try simp only[go_sem,seval]
 refine(hY acc _ (_,x,(a:Int)) xh (hcons _ _ _ _ hP hb5)).mono ?_
 rintro _ S' ⟨rfl,hP',hkeep⟩
 have g1':=hb1 _ _ hP'
 have g5:=hkeep b5 (_,x,(a:Int)) (Ze _ _ _)
 try simp only[go_sem,seval]
 refine Zn (mu:=[]) (dr:=[]) xy _ xy _ _ _ ?_
 try simp only[go_sem,seval]
 refine Zn (mu:=[]) (dr:=[]) xy _ xy _ _ _ ?_
 try simp only[go_sem,seval,g1',g5,tkE]
 rw[show IntKind.i64.wrap ((a:Int)+(x.size:Int))=((a+x.size:Nat):Int) from by rw[Zk xh xh];omega]
 refine(O5 s (a+x.size) hsz).use ?_
 have hbd:=T7 s (s.size+1) (a+x.size) xh
 try simp only[go_sem,seval]
 refine .mk (XK s (s.size+1) (a+x.size),m+1,acc++[(_,x,(a:Int))],S') ⟨hbd.2,by dsimp only;omega,by simp[hl],hP',f,by dsimp only;omega,?_⟩ xX ⟨.refl _,.refl _,trivial⟩ yS (.refl _)
 rw[<- hc]
 dsimp only
 generalize RF s f (XK s (s.size+1) (a+x.size)) (m+1)=q
 cases q<;>simp[E4]):P:=e
theorem oj(e:P:=by
 refine Zp (mu:=[]) (dr:=[(2,27,0),(10,6,0)]) [6,13,14,96,97,98,99,100,101,102,103,104,105,106,107,108,109] (fun x:Nat×nM Nat×Store=>[(96,vi x.1)]) (fun x=>x.2.2)
  (fun x=>x.1<=args.length/\JS D vars x.2.1 env x.2.2/\Stp D.jb e x.2.1 S12 x.2.2/\YM D.cT vars env args L=YM D.cT vars env (args.drop x.1) (L.drop x.1)) (fun x=>args.length-x.1) (0,e,S12) xy ⟨by simp,j12,.refl _ _ _,by simp⟩ ⟨.refl _,trivial⟩ (.refl _) ?_
 rintro⟨i,ei,Si⟩ ⟨hi,ji,si,hx⟩
 dsimp only at hi ji si hx
 by_cases hi2:(i:Int)<(args.length:Int)
 ·have x1':=iS hi2
  have x0:(0<=(i:Int))=True:=iS xh
  obtain⟨a,ha⟩:∃ a,args[i]?=some a:=⟨args[i]' xh,iO xh⟩
  obtain⟨u,hu⟩:∃ u,L[i]?=some u:=⟨L[i]' xh,iO xh⟩
  have ga:(cJ args)[i]?=some a.emb:=by rw[cW,jp,ha];rfl
  have gu:(cI L)[i]?=some u.emb:=by rw[di,jp,hu];rfl
  have w3:IntKind.i64.wrap ((i:Int)+1)=((i+1:Nat):Int):=Zk xh xh
  have x2':((i:Int)<(L.length:Int))=True:=iS xh
  rw[drop_at ha,drop_at hu] at hx
  have hk:=Tm.dp_kid (k:=k) (n:=n) (s:=s) (iG ha)
  have hud:=hs2 u (iG hu)
  have iha:=fun S' (hJ:JS D vars ei env S')=>ih a (iG ha) u ei env S' hJ hT xh xh
  have hx':YM D.cT vars env args L=(tmS D.cT vars env a u&&YM D.cT vars env (args.drop (i+1)) (L.drop (i+1))):=by rw[hx];rfl
  generalize tmS D.cT vars env a u=q5 at iha hx'
  obtain⟨ka,na,sa,la⟩:=a
  obtain⟨su,lu⟩:=u
  simp only[cO,cQ] at ga gu iha
  have k3:=si.keep _ _ g3 a3 (by intro q;exact absurd q (by first|exact c3|assumption))
  try simp only[go_sem,seval,cF,x0,x1',ga,iT,iF,jq,jr,jt]
  intro b14 hb14
  have j14:=ji.cons hb14 (.cells [.val (.int .i64 ka),.val (.int .i64 na),.val (.string sa),.list .none 4 (cJ la)])
  have n14:b14≠b3:=ZI hb14 k3
  try simp only[go_sem,seval,cG,x0,x2',gu,k3,n14,iC n14,iT,iF,jq,jr,jt]
  refine(iha _ j14).mono ?_
  rintro r S' ⟨rfl,e',hJ',hS'⟩
  have st':=(si.trans (.cons hb14 _)).trans hS'
  cases q5 with
  | false =>
    try simp only[go_sem,seval]
    exact .mk (.refl _) (.refl _) ⟨by rw[hx'];rfl,e',hJ',s12.trans st'⟩
  | true =>
    try simp only[go_sem,seval,w3]
    exact .mk (i+1,e',S') ⟨by dsimp only;omega,hJ',st',by rw[hx'];rfl⟩ xX ⟨.refl _,trivial⟩ yS (.refl _)
 ·have x1':=iU hi2
  have hq:YM D.cT vars env args L=true:=by rw[hx,jD xh];cases L.drop i<;>rfl
  rw[hq]
  try simp only[go_sem,seval,cF,x1',iV]
  exact .mk (.refl _) (.refl _) ⟨rfl,ei,ji,s12.trans si⟩):P:=e
theorem ol(e:P:=by
 try simp only[go_sem,seval,cL,cG,cF,cH,io,f4,f5,hw1,hw2]
 obtain⟨bG,fG⟩:∃ b,decide ((c.goals.length:Int)<=g)=b:=⟨_,rfl⟩
 try simp only[go_sem,seval,fG,cH]
 have hga:∀ t,c.goals.length<=g->Vb f i G.env.length c t A g s=none:=fun t h=>by simp only[Vb,jE h]
 have hs4:∀ t,t=4\/t=5->UI f i G.env.length c t (A,v,g,s)=(Vb f i G.env.length c t A g s).map fun s'=>(A,v,g+1,s'):=fun t h=>by rcases h with rfl|rfl<;>rfl
 have f4n:=of_decide_eq_true f4'
 refine⟨fun h2=>⟨by omega,by omega,fun cc hc=>?_⟩,fun h2=>?_⟩
 rotate_left
 ·rw[hno (by rw[hs4 _ xf,hga _ xh];rfl)]
  exact Zz (.refl _) (((Sub.refl σ).skip _).skip _)
 rw[iF] at hc
 obtain⟨b,hb,rfl⟩:=Yi hc
 have hx:c.goals[g]?=some (c.goals[g]' xh):=iO xh
 generalize c.goals[g]' xh=x at hx
 have hgo:∀ t,Vb f i G.env.length c t A g s=if b=decide (t=5) then Yr f i c.locals base x A s else none:=fun t=>by simp only[Vb,hx,hb,hbase]
 try simp only[go_sem,seval,cL,cG,cF,cH,io,f4,f5,hw1,hw2]
 refine⟨fun h3=>⟨by omega,by omega,fun cc hc=>?_⟩,fun h3=>?_⟩
 rotate_left
 ·rw[hno (by rw[hs4 _ xf,hgo,ig (by simpa using h3)];rfl)]
  exact Zz (.refl _) (((Sub.refl σ).skip _).skip _)
 rw[iF] at hc
 obtain⟨x',hx',rfl⟩:=dH hc
 obtain rfl:x=x':=by rw[hx] at hx';injection hx'
 have hg:=Ew f i c.locals base bk xh xh xh x A s r _ gk gr i4
 have hgx:∀ t,(t=4\/t=5)->b=decide (t=5)->UI f i G.env.length c t (A,v,g,s)=(Yr f i c.locals base x A s).map fun s'=>(A,v,g+1,s'):=fun t h h'=>by rw[hs4 t h,hgo,gZ h']
 generalize Yr f i c.locals base x A s=gx at hg hgx
 obtain⟨k',s',a',⟨ts',tl'⟩,l',n',g',e'⟩:=x
 simp only[cV] at hg
 try simp only[go_sem,seval,cV]
 refine hg.mono ?_
 rintro w S' hw'
 cases gx with
 | none =>
   obtain⟨hw1',s2,hw2'⟩:=hw'
   rw[hw1',hw2',Yo]
   try simp only[go_sem,seval]
   rw[hno (by rw[hgx _ xf (by simpa using h3)];rfl)]
   exact Zz (.refl _) (((Sub.refl σ).skip _).skip _)
 | some s2 =>
   obtain⟨hw1',hw2',hw3'⟩:=hw'
   rw[hw1',hw2',Yo]
   try simp only[go_sem,seval]
   rw[hw g xh,hw j xh]
   exact .mk (j+1,A,v,g+1,s2) ⟨by simp only;omega,by simp only;omega,by simp only;omega,hw3',by simp only;rw[hnx,hgx _ xf (by simpa using h3)];rfl⟩ xS ⟨.refl _,.refl _,.refl _,trivial⟩ yS (.refl _)):P:=e
theorem om(e:P:=by
 obtain⟨dp,hdpi,hstep⟩:=SN h i o (by rw[jF him];simpa using ho)
 have hsi:=VF hsl i dp o hdpi (by rw[jG];exact ho)
 rw[jG] at hsi
 obtain⟨hg,hdd,hdu⟩:=hsi
 have hdeps:Wm Fv fr S dp.2:=W0 fun p hp=>by
  obtain⟨b1,b2⟩:=Q7 hdp i dp hdpi p hp
  rw[jG] at b1
  exact hF p.1 p.2 b2 (hl.bef_ready b1 hi)
 have hA:=hstep fr S hk hG hdeps
 rw[jG] at hA
 have hBo:=hBl o yw
 unfold wpOpIn
 simp only[ho]
 rw[gZ yp]
 refine YW hA a' w' hc'.ok (fun x hx=>hc'.fr.operand (X7 hBo x hx)) _ Q' (fun av σ' v w2 hkk hv hs he=>?_) (fun pv σ' w2 hkk _ _=>hkk.elim) ro mm
 obtain⟨r1,r2,r3⟩:=hkk
 refine ih (ls.setIfInBounds i true) (fr.putO o.dst av) σ' _ w2 (hl.set hi) (fun j hj hjs=>by rw[ZM hsz,ig xh];exact hge j hj hjs) ?_ ?_ r2 ?_ ⟨by rw[ZJ];exact hc'.defers,(hc'.fr.ev he).put (Xh hBo) hv,hs⟩ (hv'.trans he)
 ·have:=Td (s:=m) hsz hni him
  omega
 ·cases hdo:o.dst with
  | none=>exact hk
  | some d=>exact Zf.put (hdd d hdo).2 hk
 ·intro j dj hdj hlj
  rw[ZM hsz] at hlj
  by_cases e:j=i
  ·subst e
   have hdj':dj=dp.1:=by
    unfold Tl at hdj
    rw[hdpi] at hdj
    simpa using hdj.symm
   rw[hdj']
   cases hdo:o.dst with
   | none=>rw[hdo] at r3;exact r3
   | some d =>
     rw[hdo] at r3
     have:=(hdd d hdo).1
     rw[<- this]
     simpa[Fr.putO,Fr.put,slF] using r3
  ·rw[ig e] at hlj
   have hold:=hst _ _ _ _ r1 (hF j dj hdj hlj)
   cases hdo:o.dst with
   | none=>exact hold
   | some d =>
     have hne:dj≠d:=by
      intro q
      obtain⟨dpj,hdpj⟩:∃ dpj,dr[j]?=some dpj:=by
       unfold Tl at hdj
       cases hx:dr[j]? with
       | none=>rw[hx] at hdj;cases hdj
       | some x=>exact⟨x,rfl⟩
      have hdj':dj=dpj.1:=by
       unfold Tl at hdj
       rw[hdpj] at hdj
       simpa using hdj.symm
      have hjs:j<ops.size:=jJ (inR hdj) hle
      have hsj:=VF hsl j dpj ops[j] hdpj (by rw[jG];exact jK hjs)
      rw[jG] at hsj
      rcases hsj.2.2 i o ho (by rw[hdo,<- hdj',q]) with e2|hb
      ·exact e e2.symm
      ·have:=hl.bef hb hlj
       rw[hni] at this
       cases this
     simpa[Fr.putO,Fr.put,hne] using hold):P:=e
theorem oq(e:P:=by
 intro b7 hb7
 try simp only[go_sem,seval,iL.one,iL.cells]
 refine hc.use ?_
 try simp only[go_sem,seval,iL.one,iL.cells]
 refine⟨rfl,(iL.cons hb7 _).append rfl xj (by simp[ZX];omega) rfl xf (iH.cons _) (fun v' S' hv' hkp hS'=>?_)⟩
 try simp only[go_sem,seval,hv'.one,hv'.cells,w3]
 refine .mk (i+1,v',S') ⟨by dsimp only;omega,?_,hS'⟩ xX ⟨.refl _,.refl _,trivial⟩ yS (.refl _)
 dsimp only
 rw[e1]
 exact hv'):P:=e
theorem ot(e:P:=by
 refine hy1.mono ?_
 rintro r S' ⟨hkb,(⟨rfl,hI'⟩|⟨rfl,hT⟩)⟩
 ·try simp only[go_sem,seval]
  refine Zp (mu:=[]) (dr:=[]) [4,6,25,26,27,28,29,30,31,32,33] (fun x:Nat×Store=>[(25,vi x.1)]) (fun x=>x.2)
   (fun x=>x.1<=fs.length/\I (q++([.mk ts tl]++Yw (fs.take x.1))) x.2/\Y2 own σ x.2) (fun x=>fs.length-x.1) (0,S') xy ⟨by simp,by simpa[Yw] using hI',hkb⟩ ⟨.refl _,trivial⟩ (.refl _) ?_
  rintro⟨i,S⟩ ⟨hi,hIi,hkS⟩
  dsimp only at hi hIi hkS
  by_cases hi2:(i:Int)<(fs.length:Int)
  ·have x1:=iS hi2
   have x0:(0<=(i:Int))=True:=iS xh
   obtain⟨a,ha⟩:∃ a,fs[i]?=some a:=⟨fs[i]' xh,iO xh⟩
   have g:(cN fs)[i]?=some a.emb:=by rw[dz,jp,ha];rfl
   have w3:IntKind.i64.wrap ((i:Int)+1)=((i+1:Nat):Int):=Zk xh xh
   have iha:=ih a (iG ha) _ S hIi
   obtain⟨t1,t2⟩:=Qd ha
   generalize XH a=ta at iha t1 t2
   obtain⟨ka,sa,la,⟨xa,xl⟩,fa⟩:=a
   simp only[cM] at g iha
   try simp only[go_sem,seval,cU,x0,x1,g,iT,iF,jq,jr,jt]
   intro b9 hb9
   try simp only[go_sem,seval]
   refine(iha.sub (.cons _ _)).mono ?_
   rintro r S2 ⟨hk2,(⟨rfl,h2⟩|⟨rfl,p,s2,hp,hT⟩)⟩
   ·try simp only[go_sem,seval,w3]
    exact .mk (i+1,S2) ⟨by dsimp only;omega,by dsimp only;rw[t1];simpa[List.append_assoc] using h2,hkS.trans hk2⟩ xX ⟨.refl _,trivial⟩ yS (.refl _)
   ·try simp only[go_sem,seval]
    refine .mk (.refl _) (.refl _) ⟨hkS.trans hk2,.inr ⟨rfl,[.mk ts tl]++(Yw (fs.take i)++p),s2++Yw (fs.drop (i+1)),?_,?_⟩⟩
    ·rw[t2,hp];simp[ju]
    ·simpa[ju] using hT
  ·have x1:=iU hi2
   try simp only[go_sem,seval,cU,x1,iV]
   rw[iW xh] at hIi
   exact .mk (.refl _) (.refl _) ⟨hkS,.inl ⟨rfl,hIi⟩⟩
 ·try simp only[go_sem,seval]
  exact .mk (.refl _) (.refl _) ⟨hkb,.inr ⟨rfl,[.mk ts tl],Yw fs,rfl,hT⟩⟩):P:=e
theorem ou(e:P:=by
 refine Zp (mu:=[]) (dr:=[]) [5,7,31,32,33,34,35,36,37,38,39,40,41,42,43,44,45,46,47,48,49,50,51,52,53] (fun x:Nat×Int=>[(7,vi x.1),(5,vi x.2)]) (fun _=>σ)
  (fun x=>x.1<=fs.length/\1<=x.2/\x.2<=m+1/\Yc (cR fs) c m=Yc (cR (fs.drop x.1)) x.2 m) (fun x=>fs.length-x.1) (0,c) xy ⟨by simp,by dsimp only;omega,by dsimp only;omega,rfl⟩ ⟨.refl _,.refl _,trivial⟩ (.refl _) ?_
 rintro⟨j,d⟩ ⟨hj,hd1,hd2,hy⟩
 dsimp only at hj hd1 hd2 hy
 by_cases hj2:(j:Int)<(fs.length:Int)
 ·have y1:=iS hj2
  by_cases hdm:d<=m
  ·have y2:=iS hdm
   have y0:(0<=(j:Int))=True:=iS xh
   obtain⟨a,ha⟩:∃ a,fs[j]?=some a:=⟨fs[j]' xh,iO xh⟩
   have g:(cN fs)[j]?=some a.emb:=by rw[dz,jp,ha];rfl
   have w1:IntKind.i64.wrap (m-d)=m-d:=Zk xh xh
   have iha:=ih a (iG ha) (m-d) xh xh
   have hb:=Wg a.shape (m-d) xh
   have w2:IntKind.i64.wrap (d+prt a.shape (m-d))=d+prt a.shape (m-d):=Zk xh xh
   have w3:IntKind.i64.wrap ((j:Int)+1)=((j+1:Nat):Int):=Zk xh xh
   have hd:Yc (cR (fs.drop j)) d m=Yc (cR (fs.drop (j+1))) (d+prt a.shape (m-d)) m:=by
    rw[drop_at ha];simp only[cR,Yc,gZ hdm]
   obtain⟨ka,sa,la,⟨ta,tla⟩,fa⟩:=a
   simp only[cM] at g iha
   try simp only[go_sem,seval,cU,y0,y1,y2,g,w1,iT,iF,jq,jr,jt]
   refine iha.use ?_
   try simp only[go_sem,seval,w2,w3]
   exact .mk (j+1,d+prt (Fm.mk ka sa la (.mk ta tla) fa).shape (m-d)) ⟨by dsimp only;omega,by dsimp only;omega,by dsimp only;omega,by rw[hy,hd]⟩ xX ⟨.refl _,.refl _,trivial⟩ yS (.refl _)
  ·have y2:=iU hdm
   rw[hy,Y8 _ xh]
   try simp only[go_sem,seval,cU,y1,y2,iT,iV]
   exact Zl
 ·have y1:=iU hj2
  have hf2:Yc (cR fs) c m=d:=by rw[hy,jD xh];simp only[cR,Yc]
  rw[hf2]
  try simp only[go_sem,seval,cU,y1,iV]
  exact Zl):P:=e
theorem ov(e:P:=by first|exact .mk (Wkl.agg (s:=[.list .none 6 [],vi 1]) ⟨.nilN _ _,.refl _,trivial⟩) (((hH.cons _).set f6 _).sub hnd) ⟨rfl,rfl⟩|exact .mk (Wkl.agg (s:=[.list .none 6 [],vi 1]) ⟨.nilN _ _,.refl _,trivial⟩) ((hH.set f6 _).sub hnd) ⟨rfl,rfl⟩|exact .mk (Wkl.agg (s:=[.list .none 6 [],vi 1]) ⟨.nilN _ _,.refl _,trivial⟩) (((hH.set f6 _).cons _).sub hnd) ⟨rfl,rfl⟩):P:=e
theorem ow(e:P:=by
 refine Zp (mu:=[]) (dr:=[]) [5,7,29,30,31,32,33,34,35,36,37,38,39,40,41,42,43,44,45,46,47,48,49] (fun x:Nat×Int=>[(7,vi x.1),(5,vi x.2)]) (fun _=>σ)
  (fun x=>x.1<=fs.length/\0<=x.2/\x.2<=m/\YD (cR fs) c m=YD (cR (fs.drop x.1)) x.2 m) (fun x=>fs.length-x.1) (0,c) xy ⟨by simp,by dsimp only;omega,by dsimp only;omega,rfl⟩ ⟨.refl _,.refl _,trivial⟩ (.refl _) ?_
 rintro⟨j,d⟩ ⟨hj,hd1,hd2,hy⟩
 dsimp only at hj hd1 hd2 hy
 by_cases hj2:(j:Int)<(fs.length:Int)
 ·have y1:=iS hj2
  by_cases hdm:0<m
  ·have y2:=iS hdm
   have y0:(0<=(j:Int))=True:=iS xh
   obtain⟨a,ha⟩:∃ a,fs[j]?=some a:=⟨fs[j]' xh,iO xh⟩
   have g:(cN fs)[j]?=some a.emb:=by rw[dz,jp,ha];rfl
   have w1:IntKind.i64.wrap (m-1)=m-1:=Zk xh xh
   have iha:=ih a (iG ha) (m-1) xh xh
   have hb:=Rf a.shape (m-1) xh
   have w3:IntKind.i64.wrap ((j:Int)+1)=((j+1:Nat):Int):=Zk xh xh
   have hd:YD (cR (fs.drop j)) d m=YD (cR (fs.drop (j+1))) (max d (lvl a.shape (m-1))) m:=by
    rw[drop_at ha];simp only[cR,YD,gZ hdm]
   obtain⟨ka,sa,la,⟨ta,tla⟩,fa⟩:=a
   simp only[cM] at g iha
   try simp only[go_sem,seval,cU,y0,y1,y2,g,w1,iT,iF,jq,jr,jt]
   refine iha.use ?_
   try simp only[go_sem,seval,w3]
   exact .mk (j+1,max d (lvl (Fm.mk ka sa la (.mk ta tla) fa).shape (m-1))) ⟨by dsimp only;omega,by dsimp only;omega,by dsimp only;omega,by rw[hy,hd]⟩ xX ⟨.refl _,.refl _,trivial⟩ yS (.refl _)
  ·have y2:=iU hdm
   rw[hy,WX _ xh]
   try simp only[go_sem,seval,cU,y1,y2,iT,iV,w4 d hd1 hd2]
   exact Zl
 ·have y1:=iU hj2
  have hf2:YD (cR fs) c m=d:=by rw[hy,jD xh];simp only[cR,YD]
  rw[hf2]
  try simp only[go_sem,seval,cU,y1,iV,w4 d hd1 hd2]
  exact Zl):P:=e
theorem ox(e:P:=by
 rw[hx,hf,jS]
 show YY _ _ _ _ _ _
 have hDD:=D8.setc G8 (.cells [vb false])
 have hGG:=Zd G8 (y:=.cells [vb false])
 have hHH:=H8.set f4 (.cells [vb false])
 rw[Zo n84] at hDD hGG hHH
 refine YT (fun S'=>S'.get b4=some (.cells [vb _])/\Has S S') (fun S' D x h hf hg=>⟨by rw[Za (fun e=>by rw[<- e,h.1] at hg;cases hg)];exact h.1,h.2.set hf _⟩) (fun S' h=>?_) _ _ hDD ⟨hGG,hHH⟩
 try simp only[go_sem,seval,h.1,q4]
 exact .mk (.refl _) (h.2.sub hnd) ⟨by simp,rfl⟩):P:=e
theorem oy(e:P:=by
 have hb1:(!decide (left=true))=!left:=by cases left<;>rfl
 have hb2:(!decide (left=false))=left:=by cases left<;>rfl
 first|rw[hb1]|rw[hb2]
 refine hih.mono ?_
 intro r S' hr
 obtain⟨rfl,e',hJ',st'⟩:=hend r S' hr
 cases q5 with
 | false =>
   try simp only[go_sem,seval]
   exact .mk (.refl _) (.refl _) ⟨by rw[hx'];rfl,e',hJ',s5.trans st'⟩
 | true =>
   try simp only[go_sem,seval,w3]
   exact .mk (i+1,e',S') ⟨by dsimp only;omega,hJ',st',by rw[hx',Bool.true_and]⟩ xX ⟨.refl _,trivial⟩ yS (.refl _)):P:=e
theorem oz(e:P:=by
 refine Zp (mu:=[]) (dr:=[]) [7,20,21,22,23,24,25,26,27,28] (fun x:Nat×Store=>[(20,vi x.1)]) (fun x=>x.2) (fun x=>x.1<=l.length/\Pp (i0+1+(ZV (l.take x.1) b').length) x.2) (fun x=>l.length-x.1) (0,S1) xy ⟨by simp,hP1⟩ ⟨.refl _,trivial⟩ (.refl _) ?_
 rintro⟨i,S⟩ ⟨hi,hPi⟩
 dsimp only at hi hPi
 try simp only[go_sem,seval,cF]
 refine⟨fun hi2=>⟨by omega,hi2,fun c hc=>?_⟩,fun hi2=>?_⟩
 ·rw[iF] at hc
  obtain⟨a,ha,rfl⟩:=dQ hc
  have hsp:=Z6 ha
  have iha:=ih a (iG ha) b' (i0+1+(ZV (l.take i) b').length) S hPi (fun j p S hj hS=>by
   have:=hfl ((ZV (l.take i) b').length+j) p S (by
    have hjl:=(List.getElem?_eq_some_iff.1 hj).1
    have e:ZV l b'=ZV (l.take i) b'++ZV (a::l.drop (i+1)) b':=by rw[<- Vp,<- hsp]
    rw[e,jT xh,Nat.add_sub_cancel_left,ZV,jU hjl]
    exact hj) (by rw[<- jV];exact hS)
   rw[show i0+1+(ZV (l.take i) b').length+j=i0+1+((ZV (l.take i) b').length+j) by omega]
   exact this)
  have hnx:(ZV (l.take (i+1)) b').length=(ZV (l.take i) b').length+(Y9 a b').length:=by rw[jh,ha,jj,Vp];simp[ZV]
  obtain⟨ka,na,sa,la⟩:=a
  try simp only[go_sem,seval,cO]
  intro b9 hb9
  try simp only[go_sem,seval,cO]
  refine(iha.sub (.cons _ _)).mono ?_
  rintro r S2 ⟨h1,h2⟩
  rw[h1]
  try simp only[go_sem,seval]
  rw[show IntKind.i64.wrap ((i:Int)+1)=((i+1:Nat):Int) from Zk xh xh]
  refine .mk (i+1,S2) ⟨by dsimp only;omega,?_⟩ xX ⟨.refl _,trivial⟩ yS (.refl _)
  dsimp only
  rw[hnx,<- jV]
  exact h2
 ·have hil:l.take i=l:=iW xh
  rw[hil] at hPi
  exact .mk (.refl _) (.refl _) ⟨rfl,by rw[<- jV];exact hPi⟩):P:=e
theorem oA(e:P:=by
 unfold Fr.args
 by_cases hlt:i<args.length
 ·have e1:args.getD i (.val undef)=args[i]:=by simp[hlt]
  have e2:(vs++Array.replicate (fn.ntmps-vs.size) undef).getD i undef=vs.toList[i]' xz:=by
   simp[jO,jP,show i<vs.size from by omega]
  rw[e1,e2]
  exact hv.2 i _ _ (iO hlt) (iO _)
 ·have e1:args.getD i (.val undef)=.val undef:=by simp[jQ,jE (show args.length<=i by omega)]
  have e2:(vs++Array.replicate (fn.ntmps-vs.size) undef).getD i undef=undef:=by
   simp[jO,jP,show ¬ i<vs.size from by omega,jR]
   split<;>rfl
  rw[e1,e2]
  exact .val _):P:=e
theorem oB(e:P:=by
 rw[gZ hlt2,Zx] at hw
 obtain⟨hw1,hw2⟩:=hw
 rw[hw1,hw2]
 try simp only[go_sem,seval]
 rw[show IntKind.i64.wrap ((i:Int)+1)=((i+1:Nat):Int) from Zk xh xh]
 refine .mk (i+1) ⟨by omega,by rw[hst];omega⟩ xh ⟨.refl _,trivial⟩ yV ?_
 try simp only
 rw[hst,<- jV]
 exact(Sub.refl _).skip _):P:=e
theorem oC(e:P:=by
 obtain⟨kt,zt,at_,⟨yt,yl⟩,lt⟩:=t
 simp only[cM,Nu.cb] at hcl gt hea
 try simp only[go_sem,seval,cU,x0,x1,gt,iT,iF,jq,jr,jt]
 intro b9 hb9
 have h3:=hc.cons hb9 (.cells [vi kt,vs zt,.list .none 4 (cJ at_),vs yt,.list .none 2 (cI yl),.list .none 6 (cN lt)])
 obtain⟨U,hU⟩:∃ U:Store,U=(b9,AObj.cells [vi kt,vs zt,.list .none 4 (cJ at_),vs yt,.list .none 2 (cI yl),.list .none 6 (cN lt)])::S2:=⟨_,rfl⟩
 have u9:U.get b9=some (.cells [vi kt,vs zt,.list .none 4 (cJ at_),vs yt,.list .none 2 (cI yl),.list .none 6 (cN lt)]):=by rw[hU];exact Ze _ _ _
 have n9:b9≠D.bc:=(Zv hc.ni.gc hb9).symm
 rw[<- hU] at h3 ⊢
 clear hU hc hb9
 have g7:=h3.g7
 try simp only[go_sem,seval,g7,u9,Nu.cb]
 refine(hcl U h3.ni xh).mono ?_
 rintro r S4 ⟨rfl,w4,h4,t4⟩
 have v9:=(t4 _ _ u9 (by simp[n9]) (h3.ni.lv.notCells u9)).1
 have h5:=h3.step h4 t4
 have g7:=h5.g7
 clear h3 h4 t4 u9
 try simp only[go_sem,seval,g7,v9,hw]
 refine⟨rfl,h5.ll.appT rfl xj (by rw[cU,ip];simp only[ij,im];omega) rfl xf h5.ni.has (fun v' S' hv' hT hS'=>?_)⟩
 obtain⟨g',h6⟩:=h5.putL (el':=l.take (j+1)) (by rw[hea];exact hv') hT hS'
 try simp only[go_sem,seval,g',hv'.one,hv'.cells,h5.la.one,h5.la.cells,hw]
 exact .mk (j+1,v',w4,S'.set b7 (.cells [vi k,vs s,va,vs ts,.list .none 2 (cI tl),v'])) ⟨by omega,by dsimp only;rw[htk];exact h6⟩ xh ⟨.refl _,trivial⟩ yS (.refl _)):P:=e
theorem oD(e:P:=by
 rintro r σ' (⟨i,hi,hb,hn,rfl,rfl⟩|⟨hn,rfl,rfl⟩)
 ·try simp only[go_sem,seval]
  exact .mk (.refl _) (.refl _) (.inl ⟨i,hi,hb,hn,by simp,rfl⟩)
 ·try simp only[go_sem,seval]
  exact .mk (.refl _) (.refl _) (.inr ⟨hn,rfl,rfl⟩)):P:=e
theorem oE(e:P:=by
 intro tmps hsz htm q a S hJ
 have t2:=htm 2 _ xj (by try simp only[go_sem,seval,k2];rfl)
 have hl:=Oq a 100 xh xh
 have hda:dpT a=decide (100<lvl a.shape 100):=rfl
 generalize lvl a.shape 100=m at hl hda
 have hqa:(q++[a]).any dpT=decide (100<m):=by rw[jW,hJ.1];simp[hda]
 obtain⟨xa,xl⟩:=a
 simp only[tyA,cQ] at hl ⊢
 refine Zn (mu:=[]) (dr:=[]) xy _ xy _ _ _ ?_
 try simp only[go_sem,seval,Xm,t2]
 intro b5 hb5
 try simp only[go_sem,seval,Xm,t2]
 obtain⟨i1,i2,i3,i4,i5,i6⟩:=hJ
 have kl:=Xc.cons hb5 (.cells [vs xa,.list .none 2 (cI xl)])
 refine⟨fun k x hx _=>by rw[Zg hb5 (by rw[hx];rfl)];exact hx,⟨i1,kl _ _ i2 xZ,kl _ _ i3 xZ,kl _ _ i4 xZ,i5.cons _,i6.keep kl⟩,fun S2 hJ2 hkl=>?_⟩
 have g5:=hkl _ _ (Ze b5 _ _) xZ
 obtain⟨i1,i2,i3,i4,i5,i6⟩:=hJ2
 refine Zn (mu:=[]) (dr:=[]) xy _ xy _ _ _ ?_
 try simp only[go_sem,seval,Xm,t2,g5]
 refine hl.use ?_
 by_cases hm:100<m
 ·have y1:(m > 100)=True:=iS hm
  try simp only[go_sem,seval,Xm,t2,g5,y1,iT,i2,jX]
  exact⟨⟨by rw[hqa];exact jy hm,i5.set hb2 _,i6.setc i2 _⟩,.set xf _⟩
 ·have y1:(m > 100)=False:=iU hm
  try simp only[go_sem,seval,Xm,t2,g5,y1,iV]
  exact⟨⟨by rw[hqa];exact jY hm,i2,i3,i4,i5,i6⟩,.refl _ _⟩):P:=e
theorem oF(e:P:=by
 refine⟨by simp;omega,fun i hi=>?_⟩
 unfold Fr.args
 by_cases hlt:i<cap.length
 ·have e1:(cap.map AV.val).getD i (.val undef)=.val cap[i]:=by simp[hlt]
  have e2:(cap.toArray++Array.replicate (fn.ntmps-cap.toArray.size) undef).getD i undef=cap[i]:=by
   simp[jO,jP,hlt]
  rw[e1,e2];exact .val _
 ·have e1:(cap.map AV.val).getD i (.val undef)=.val undef:=by simp[jQ,jE (show cap.length<=i by omega)]
  have e2:(cap.toArray++Array.replicate (fn.ntmps-cap.toArray.size) undef).getD i undef=undef:=by
   simp[jO,jP,hlt,jR]
   split<;>rfl
  rw[e1,e2];exact .val _):P:=e
theorem oG(e:P:=by
 try simp only[go_sem,seval]
 exact Zl):P:=e
theorem oH(e:P:=by
 rw[show 4000-(n+c)=4000-n-c from by omega] at iha
 rw[hd] at hx
 generalize prt a.shape (4000-n-c)=p at iha hx hbd
 obtain⟨ka,na,sa,la⟩:=a
 simp only[cO] at ga iha
 try simp only[go_sem,seval,cF,x0,x2,ga,iT,iF,jq,jr,jt]
 intro b5 hb5
 rw[WZ] at hb5
 have n5:b5≠b:=ZI hb5 g
 try simp only[go_sem,seval]
 refine(iha _ (by rw[Zc n5];exact Zd g)).mono ?_
 rintro r S' (⟨hle,rfl,rfl⟩|⟨hgt,rfl,rfl⟩)
 ·rw[Zo n5,Zx]
  try simp only[go_sem,seval,w3]
  refine .mk (i+1,c+p) ⟨by dsimp only;omega,by dsimp only;omega,by dsimp only;omega,hx⟩ xX ⟨.refl _,trivial⟩ yS ?_
  dsimp only
  rw[show n+c+p=n+(c+p) from by omega]
  exact .cons _ _
 ·rw[Zo n5,Zx]
  try simp only[go_sem,seval]
  rw[hx,Y8 _ xh]
  exact .mk (.cons _ _) (.inr ⟨by omega,rfl,rfl⟩)):P:=e
theorem oI(e:P:=by
 obtain⟨kt,nt,zt,lt⟩:=t
 simp only[cO] at hc gt
 try simp only[go_sem,seval,cF,x0,x1,gt,iT,iF,jq,jr,jt]
 intro b6 hb6
 have h3:=h2.cons hb6 (.cells [vi kt,vi nt,vs zt,.list .none 4 (cJ lt)])
 have t3:=t2.cons hb6 (.cells [vi kt,vi nt,vs zt,.list .none 4 (cJ lt)])
 obtain⟨U,hU⟩:∃ U:Store,U=(b6,AObj.cells [vi kt,vi nt,vs zt,.list .none 4 (cJ lt)])::S2:=⟨_,rfl⟩
 have u6:U.get b6=some (.cells [vi kt,vi nt,vs zt,.list .none 4 (cJ lt)]):=by rw[hU];exact Ze _ _ _
 rw[<- hU] at h3 t3 ⊢
 clear hU h2 t2
 have gv:=h3.gv
 try simp only[go_sem,seval,gv,u6,Nu.clo]
 refine(hc U h3 xh).mono ?_
 rintro r S4 ⟨rfl,w4,h4,t4⟩
 try simp only[go_sem,seval,hw]
 exact .mk (i+1,w4,S4) ⟨by omega,by dsimp only;rw[htk];exact h4,t3.trans t4⟩ xh ⟨.refl _,trivial⟩ yS (.refl _)):P:=e
theorem oJ(e:P:=by
 rcases hb with⟨hg,hop⟩|⟨hg,hvu⟩
 ·rw[XO agree] at hg
  have hw:=XC (P:=P) hg hc.fr.size (fun j want d _ hd=>⟨hdst j d hd,hc.fr.slot d (hdst j d hd)⟩)
  rw[gZ hw]
  refine(hop.congr (Vc agree)) a w hc.ok (fun x hx=>hc.fr.operand (X7 hoB x hx)) _ Q (fun av' σ2 u w' hk hu hs' he'=>?_) (fun pv σ2 w' hk _ _=>?_) ro mm
  ·obtain⟨hk,rfl⟩:=hk
   injection hk with hk
   subst hk
   exact nx _ _ ⟨by rw[ZJ];exact hc.defers,(hc.fr.ev he').put hdo hu,hs'⟩ (he.trans he')
  ·exact absurd hk.1 xf
 ·rw[XO agree] at hg
  have hw:=XC (P:=P) hg hc.fr.size (fun j want d _ hd=>⟨hdst j d hd,hc.fr.slot d (hdst j d hd)⟩)
  rw[ig (by rw[hw];exact Bool.false_ne_true)]
  refine⟨fun _ _=>trivial,?_⟩
  subst hvu
  exact nx _ _ ⟨by rw[ZJ];exact hc.defers,hc.fr.put hdo (.val undef),hc.ok⟩ he):P:=e
theorem oL(e:P:=by
 try simp only[go_sem,Int.reduceEq,Int.reduceLT,Int.reduceLE,↓reduceIte,Nat.reduceEqDiff,Nat.reduceAdd,Nat.reduceSub,Nat.reduceLT,Nat.reduceLeDiff,Nat.reduceMul,reduceCtorEq,ij,iR]
 have hq:q=false:=by rw[hd];simp_all
 rw[hsp,hq]
 exact Zz (.refl _) (((Sub.refl σ).skip _).skip _)):P:=e
theorem oM(e:P:=by exact .mk (ep _ _ _) (.cons _ _) ⟨rfl,.mk { data:=#[] } [],false,0,rfl,.inl rfl⟩):P:=e
theorem oN(e:P:=by
 intro fr' σ' a' w' q hfr hok v
 obtain⟨us,aS,r1,r2,v',σ2,k1,k3⟩:=Ul hfr hok _ _ h2 q
 have hrun:(results fn a'.tmps).run P w'=.ok (if h:us.toArray.size=1 then us.toArray[0] else .tuple us.toArray) w':=by
  unfold results
  rw[Array.mapM_eq_mapM_toList]
  simp only[jZ,Sem.run_map,kf]
  erw [r1]
  rfl
 have hval:V (live σ') w' (dN aS) (if h:us.toArray.size=1 then us.toArray[0] else .tuple us.toArray):=by
  match aS,us,r2 with
  | [],[],_=>exact V.tup [] [] rfl xf
  | [a],[u],r2=>exact r2.2 0 a u rfl rfl
  | a::b::r,x::y::t,r2 =>
    simp only[kg,ij,show ¬ (t.length+1+1=1) from by omega,dite_false,dN]
    exact V.tup _ _ r2.1 r2.2
 obtain⟨j1,j2,j3⟩:=k1 w' _ hok hval
 exact⟨_,hrun,v',σ2,k3,j1,j2,v.trans j3⟩):P:=e
theorem oO(e:P:=by
 try simp only[go_sem,seval]
 exact .mk (.refl _) (.refl _) ⟨by simp,e,j5,s5⟩):P:=e
theorem oP(e:P:=by
 try simp only[go_sem,seval]
 exact Zs xf):P:=e
theorem oQ(e:P:=by
 intro u u' hu hst g cap fr' σ' a' w' hD hfr hok v
 have hD2:=hD.2 w' hok
 rw[Array.toArray_toList] at hD2
 refine leaves_cons hu (inv g cap w' hD.1) (hD2.mono ?_)
 rintro e u2 w2 ⟨⟨x,hx⟩,hu2,σ2,hk,hs2,hv2⟩
 subst hx;subst hu2
 simp only[hst]
 obtain⟨y,hy1,hy2⟩:=endK fr' σ2 a' w2 hk (hfr.ev hv2) hs2 (v.trans hv2)
 exact⟨y,hy1,hy2⟩):P:=e
theorem oR(e:P:=by
 try simp only[go_sem,Int.reduceEq,Int.reduceLT,Int.reduceLE,↓reduceIte,Nat.reduceEqDiff,Nat.reduceAdd,Nat.reduceSub,Nat.reduceLT,Nat.reduceLeDiff,Nat.reduceMul,reduceCtorEq,gc]
 refine Ws (z:=.bool false) fa0 fa1 fa2 g ?_
 rw[Oo,Rc]
 by_cases h:n∈A
 ·rw[gZ h,jy h]
  try simp only[go_sem,Int.reduceEq,Int.reduceLT,Int.reduceLE,↓reduceIte,Nat.reduceEqDiff,Nat.reduceAdd,Nat.reduceSub,Nat.reduceLT,Nat.reduceLeDiff,Nat.reduceMul,reduceCtorEq,ko]
  exact Zl
 ·rw[ig h,jY h]
  try simp only[go_sem,Int.reduceEq,Int.reduceLT,Int.reduceLE,↓reduceIte,Nat.reduceEqDiff,Nat.reduceAdd,Nat.reduceSub,Nat.reduceLT,Nat.reduceLeDiff,Nat.reduceMul,reduceCtorEq,kr]
  exact Zl):P:=e
theorem oS(e:P:=by exact Zz (.refl _) (((Sub.refl σ).skip _).skip _)):P:=e
theorem oT(e:P:=by
 have x1:=iU hj2
 try simp only[go_sem,seval,cF,x1,iV]
 rw[iW xh] at hIj
 exact .mk (.refl _) (.refl _) ⟨hkS,.inl ⟨rfl,hIj⟩⟩):P:=e
theorem oU(e:P:=by
 have x1:((j:Int)<(l.length:Int))=False:=iU xh
 rw[show l.take j=l from iW xh] at hc
 have g7:=hc.g7
 obtain⟨y1,y2,y3,y4,y5,y6,g6⟩:=hc.g6
 try simp only[go_sem,seval,cU,x0,x1,g7,g6,hc.la.one,hc.la.cells,hc.ll.one,hc.ll.cells,iV]
 exact .mk (Wkl.agg (show Wkl [vi k,vs s,va,vs ts,.list .none 2 (cI tl),vl] [vi k,vs s,.list .none 4 (cJ a),vs ts,.list .none 2 (cI tl),.list .none 6 (cN l)] from⟨.refl _,.refl _,hc.la.wk,.refl _,.refl _,hc.ll.wk,trivial⟩)) (.refl _) ⟨rfl,w2,hc.ni.set g6 f6 m1 m2 m3 _,fun i x a b c=>by
  obtain⟨p,q,-⟩:=hc.tn i x a (by simpa using b) c
  exact⟨by rw[Za (Zv a f60)];exact p,q⟩⟩):P:=e
theorem oV(e:P:=by
 try simp only[go_sem,seval,iF,h1]
 refine⟨fun _=>⟨by omega,by omega,?_⟩,fun h=>by omega⟩
 rw[show IntKind.i64.wrap ((x:Int)+1)=((x+1:Nat):Int) from Zk xh xh]
 exact .mk (x+1) ⟨f,by omega,hx⟩ xh ⟨.refl _,trivial⟩ yS (.refl _)):P:=e
theorem oW(e:P:=by exact Zz (.refl _) (.cons _ _)):P:=e
theorem oX(e:P:=by
 try simp only[go_sem,seval,h.1,q4]
 exact .mk (.refl _) (h.2.sub hnd) ⟨by simp,rfl⟩):P:=e
theorem oY(e:P:=by
 try simp only[go_sem,seval]
 intro fr'
 try simp only[go_sem,seval]
 exact .mk (.refl _) (.inr ⟨by simp only[GSt.add,MSt.add] at hc2;omega,rfl,hH2,uK.pn hP2⟩)):P:=e
theorem oZ(e:P:=by
 rintro D S c q s hfD hgD hL ⟨rfl,hq,j3,j6,j7⟩
 have hne:∀ D',WS D'∈dd->D'≠D:=fun D' h e=>by have:=hD.has h;rw[e,Zj hfD] at this;cases this
 replace hfD:=hH.fresh hfD
 have hv:VP p0=true:=by unfold VP;rw[hL,jW,hq];simp
 try simp only[go_sem,seval]
 rw[hv]
 show YY _ _ _ _ _ _
 refine YT (fun S=>S.get b2=some (.cells [vb true])/\Has σ S) (fun S D x h hf hg=>⟨by rw[Za (fun e=>by rw[<- e,h.1] at hg;cases hg)];exact h.1,h.2.set hf _⟩) (fun S h=>?_) _ _ (Wc.cons j7 hfD hgD hne) ⟨j3,j6⟩
 try simp only[go_sem,seval,h.1,k2]
 exact .mk (.refl _) (h.2.sub hnd) ⟨rfl,rfl⟩):P:=e
theorem pc(e:P:=by
 rw[ki,io] at h
 refine h.mono fun x σ' hx=>?_
 refine hx.one ?_
 rw[List.any_eq_true]
 constructor
 ·rintro⟨n,hn,hb⟩
  obtain⟨i,hi,rfl⟩:=iN hn
  exact⟨i,hi,by simp only[iO hi];exact hb⟩
 ·rintro⟨i,hi,hb⟩
  simp only[iO hi] at hb
  exact⟨l[i],kj hi,hb⟩):P:=e
theorem pe(e:P:=by
 intro e fr2 σ2 a2 w2 q2 c2 v2
 have hrs:∃ v,(results fn a2.tmps).run P w2=.ok v w2:=by
  refine⟨.tuple #[],?_⟩
  unfold results
  rw[hres]
  simp
 obtain⟨v,hv⟩:=hrs
 cases e with
 | normal=>obtain⟨σ3,s3,q3⟩:=q2;exact⟨c2.defers,u',hcs,v,hv,⟨v,rfl⟩,rfl,σ3,q3,c2.ok.sub s3,v2.trans (s3.ev _)⟩
 | ret=>obtain⟨σ3,s3,q3⟩:=q2;exact⟨c2.defers,u',hcs,v,hv,⟨v,rfl⟩,rfl,σ3,q3,c2.ok.sub s3,v2.trans (s3.ev _)⟩
 | exit i=>exact q2.elim
 | goto l=>exact q2.elim
 | panic ch=>exact q2.elim
 | outgrown=>exact q2.elim):P:=e
theorem pf(e:P:=by exact .mk (.refl _) (.refl _) ⟨by first|(simp;done)|(simp_all;done),e,j5,s5⟩):P:=e
theorem pg(e:P:=by
 intro l
 induction l with
 | nil =>
   intro σ2 w2 q hfr hok hv
   obtain⟨y,hy1,hy2⟩:=endK fr' σ2 a' w2 q hfr hok hv
   exact⟨y,hy1,hy2⟩
 | cons d l ih =>
   intro σ2 w2 q hfr hok hv
   rcases q with⟨D,rfl,hD,q⟩|⟨g,cap,rfl,rfl,hA⟩
   ·obtain⟨t1,t2,t3⟩:=W5 hok hD (.deferred none)
    have hw:w2.heap[D]?=some (.deferred (some [])):=hok.obj D _ (ZU hD)
    exact .inl ⟨D,_,rfl,run_takeDeferred hw,ih _ _ q (hfr.ev t2) t1 (hv.trans t2)⟩
   ·exact .inr (goD _ _ xf rfl g cap fr' _ a' _ hA hfr hok hv)):P:=e
theorem ph(e:P:=by
 have hi2:i=es.length:=by omega
 subst hi2
 exact .mk (.refl _) (.refl _) (.inr ⟨hb,rfl,rfl⟩)):P:=e
theorem pi(e:P:=by
 try simp only[go_sem,seval,jA]
 rw[show IntKind.i64.wrap ((i:Int)+1)=((i+1:Nat):Int) from Zk xh xh]
 exact .mk (i+1) xh xh ⟨.refl _,trivial⟩ yS (.refl _)):P:=e
theorem pj(e:P:=by
 rcases hs with hs|hs
 ·rw[hs]
 ·rw[hs] at h1;simp at h1;omega):P:=e
theorem po(e:P:=by
 cases e with
 | normal =>
   obtain⟨z,hz,hlt,fr2,σ2,hsh,hf,hk,hs⟩:=q
   obtain⟨c2,v2⟩:=hsh.conf c'
   exact⟨μ z,hlt,z,hz,rfl,c2.wk (.of_turn hk _ hf) hs,((hv1.trans v).trans v2).trans (hs.ev w')⟩
 | exit i=>exact hq _ _ _ _ _ q c' (hv1.trans v)
 | goto l=>exact hq _ _ _ _ _ q c' (hv1.trans v)
 | ret=>exact hq _ _ _ _ _ q c' (hv1.trans v)
 | panic ch=>exact hq _ _ _ _ _ q c' (hv1.trans v)
 | outgrown=>exact hq _ _ _ _ _ q c' (hv1.trans v)):P:=e
theorem pp(e:P:=by
 obtain⟨ka,na,sa,la⟩:=a
 simp only[cO] at g iha
 try simp only[go_sem,seval,cF,x0,x1,x2,g,w1,iT,iF,jq,jr,jt]
 refine iha.use ?_
 try simp only[go_sem,seval,w3]
 exact .mk (i+1,max c (lvl (Tm.mk ka na sa la).shape (m-1))) ⟨by dsimp only;omega,by dsimp only;omega,by dsimp only;omega,by rw[hx,hd]⟩ xX ⟨.refl _,.refl _,trivial⟩ yS (.refl _)):P:=e
theorem pq(e:P:=by
 repeat refine Zf.put rfl ?_
 exact Zf.turn _ rfl):P:=e
theorem pr(e:P:=by
 obtain⟨ka,na,sa,la⟩:=a
 simp only[cO] at g iha
 try simp only[go_sem,seval,cF,x0,x1,x2,g,w1,iT,iF,jq,jr,jt]
 refine iha.use ?_
 try simp only[go_sem,seval,w2,w3]
 exact .mk (i+1,c+prt (Tm.mk ka na sa la).shape (m-c)) ⟨by dsimp only;omega,by dsimp only;omega,by dsimp only;omega,by rw[hx,hd]⟩ xX ⟨.refl _,.refl _,trivial⟩ yS (.refl _)):P:=e
theorem pw(e:P:=by
 refine⟨hg,rfl,fun b e c hb=>?_⟩
 have hd:Has σ0 (S.del b0):=fun p hp=>by obtain⟨j,x⟩:=p;exact U6 (hH _ hp) (YP hf hp)
 refine k _ _ ⟨_,_,rfl,.inl rfl,.inr ⟨b,e,c,rfl,rfl,Ze _ _ _,hd.fresh hb⟩⟩ ?_ (hd.cons _)
 intro i x hi hx
 rw[Zg hb (by rw[Xi (fun q=>by rw[q,hg] at hi;injection hi with hi;exact hx _ _ hi.symm),hi];rfl),Xi (fun q=>by rw[q,hg] at hi;injection hi with hi;exact hx _ _ hi.symm)]
 exact hi):P:=e
theorem px(e:P:=by
 refine hw.mono ?_
 rintro r S' ⟨rfl,e',hJ',hS'⟩
 try simp only[go_sem,seval]
 exact .mk (.refl _) (.refl _) ⟨by simp,e',hJ',s5.trans hS'⟩):P:=e
theorem py(e:P:=by
 by_cases h1:i<o
 ·rw[jU xz,jF h1] at hc
  exact .inr ⟨.inl h1,hc⟩
 ·rw[jT xz] at hc
  simp only[ip,ks (show o<=cs.length by omega)] at hc
  by_cases h2:i<o+vs.length
  ·rw[jU xh] at hc
   exact .inl ⟨by omega,h2,hc⟩
  ·rw[jT xh,ku] at hc
   have e:o+vs.length+(i-o-vs.length)=i:=by omega
   rw[e] at hc
   exact .inr ⟨.inr xh,hc⟩):P:=e
theorem pz(e:P:=by
 try simp only[go_sem,seval]
 exact Zs rfl):P:=e
theorem pA(e:P:=by refine⟨fun h=>⟨fun h2=>⟨fun h3=>Zs ?_,fun h3=>Zs ?_⟩,fun h2=>Zs ?_⟩,fun h=>Zs ?_⟩<;>(try simp_all)<;>(try(intros;omega))):P:=e
theorem pB(e:P:=by
 cases e with
 | normal=>exact hq _ _ _ _ _ q c' v
 | exit i =>
   simp only[Ua] at q
   simp only[Exit.inBlock]
   split
   ·rename_i e;rw[gZ e] at q;exact hq _ _ _ _ _ q c' v
   ·rename_i e;rw[ig e] at q;exact hq _ _ _ _ _ q c' v
 | goto l=>exact hq _ _ _ _ _ q c' v
 | ret=>exact hq _ _ _ _ _ q c' v
 | panic ch=>exact hq _ _ _ _ _ q c' v
 | outgrown=>exact hq _ _ _ _ _ q c' v):P:=e
theorem pC(e:P:=by
 refine Zh.mono h0 ?_
 rintro res S' ⟨rfl,⟨h1,h2,h3⟩|⟨q,s,hL,c,hc,⟨r2,h1,e1,e2⟩,h2,h3⟩⟩
 ·refine⟨r,h1,by rw[hst];decide,?_⟩
  rw[hpe]
  exact hn D _ hD (by rw[Za (iC nlD)];exact h2) (js _ _ _ _ _ h3 fl.2 h1)
 ·refine⟨r2,h1,by rw[e1];decide,?_⟩
  rw[e2]
  exact hx D _ c q s hD (by rw[Za (iC nlD)];exact h2) hL (ts _ _ _ _ _ _ h3 fl.2 h1)):P:=e
theorem pD(e:P:=by
 try simp only[go_sem,Int.reduceEq,Int.reduceLT,Int.reduceLE,↓reduceIte,Nat.reduceEqDiff,Nat.reduceAdd,Nat.reduceSub,Nat.reduceLT,Nat.reduceLeDiff,Nat.reduceMul,reduceCtorEq]
 exact Zl):P:=e
theorem pE(e:P:=by
 rintro fr S hk rfl ⟨h0,-⟩
 try simp only[go_sem,seval,h0,jq,jr]):P:=e
theorem pF(e:P:=by
 rw[ho] at h;simp only[ZA] at h;intro a w hσ hop next Q hn hp;rw[ho] at hop
 obtain⟨w',σ',r1,r2,r3,r4⟩:=TI (P:=P) h hσ (hop m yh) (hop k yh) (hop x yh)
 exact Qb (Rk (s:=Instr.mapUpdate t (a.eval m) (a.eval k) (a.eval x)) yo r1) (hn _ _ _ _ r4 (.any _) r2 r3)):P:=e
theorem pG(e:P:=by
 have e2:=YO (cK l) (j+1)
 rwa [show(cK l).take (j+1)=cK (l.take (j+1)) by rw[cS,cS,jx]] at e2):P:=e
theorem pH(e:P:=by
 refine h1.head ?_
 cases q1 with
 | false=>try simp only[go_sem,seval];(try simp only[jz,jS,ky,ja,kz,kA,iT,iV]);exact Zz (.refl _) (.cons _ _)
 | true =>
   try simp only[go_sem,seval,jq,jr,jt]
   refine h2.use ?_
   try simp only[go_sem,seval]
   (try simp only[jz,jS,ky,ja,kz,kA,iT,iV]);exact Zz (.refl _) (.cons _ _)):P:=e
theorem pI(e:P:=by
 rintro r U' ⟨⟨⟨v,rfl,hv⟩,hH⟩,hn⟩
 try simp only[go_sem,seval]
 refine⟨hH.sees hn,⟨hG.1.trans (hH.sees hn),hG.2.trans hH⟩,?_⟩
 simp only[Dr.emb,Dr.cs,cM,kE,kF]
 exact Wkl.agg ⟨hv.wk,.list _ _ _,.list _ _ _,.refl _,.refl _,.refl _,.refl _,.refl _,.refl _,.refl _,.refl _,trivial⟩):P:=e
theorem pJ(e:P:=by exact .mk (.refl _) (.cons _ _) ⟨rfl,rfl⟩):P:=e
theorem pK(e:P:=by
 unfold WH
 rw[ig xh]
 exact⟨rfl,m,rfl⟩):P:=e
theorem pL(e:P:=by
 unfold Op.equal Op.maxDepth
 rw[show(10000:Nat)=9999+1 from rfl,Op.equalIn]
 simp only[jZ,kB hu,kC]
 rfl):P:=e
theorem pM(e:P:=by
 cases hR with
 | none =>
   have:recoverD (c₀::cs)=none:=by simp[recoverD,hu]
   rw[this]
   exact go _ (by rw[<- hu])
 | some pv =>
   have:recoverD (c₀::cs)=some (rv,{ c₀ with mode:=.panicking [{ v:=rv,recovered:=true }] }::cs):=by simp[recoverD,hu]
   rw[this]
   exact go _ rfl):P:=e
theorem pN(e:P:=by
 try simp only[go_sem,seval,cL,cG,cF,cH,io,f4,f5,hw1,hw2]
 exact Zs xf):P:=e
theorem pO(e:P:=by
 simp only[kg,ij,show ¬ (t.length+1+1=1) from by omega,dite_false,dN]
 exact V.tup _ _ r2.1 r2.2):P:=e
theorem pQ(e:P:=by
 rintro fr S hk rfl ⟨h0,-⟩
 try simp only[go_sem,seval,h0]):P:=e
theorem pR(e:P:=by
 have hf:Wh ⟨an,at_,ak,am⟩=true:=hpo2
 rw[hf,jz] at hx
 try simp only[go_sem,seval,w3]
 exact .mk (i+1,_) ⟨by dsimp only;omega,G8,H8,D8,hx⟩ xX ⟨.refl _,trivial⟩ yS (.refl _)):P:=e
theorem pS(e:P:=by
 refine XT (YR hB) _ (fun o ho=>hBl o (iX ho)) fr S a' w' (hq fr S hk hG (W0 fun p hp=>?_)) hc' (fun e fr' σ' a2 w2 q c v=>hq' e fr' σ' a2 w2 q c (hv'.trans v)) ro mm
 have:=List.all_eq_true.1 hall p hp
 simp only[kD] at this
 exact hF _ _ this (hz _ (inR this))):P:=e
theorem pT(e:P:=by exact .mk (.refl _) (.refl _) ⟨by first|(congr 2;done)|(congr 2;simp_all),e,j5,s5⟩):P:=e
theorem pU(e:P:=by
 unfold results
 rw[Array.mapM_eq_mapM_toList]
 simp only[jZ,Sem.run_map,kf]
 erw [r1]
 rfl):P:=e
theorem pV(e:P:=by
 have:(Op.equal T (.slice ad es.length cap) (.slice none n c)).run P w=.ok ad.isNone w:=by
  unfold Op.equal Op.maxDepth
  rw[show(10000:Nat)=9999+1 from rfl,Op.equalIn]
  simp only[jZ,kB (Xr he),kC]
  cases ad<;>rfl
 simp[eqGuard,binOp,this]):P:=e
theorem pW(e:P:=by
 rw[this,kh] at hst
 rw[hw i xh]
 exact .mk (i+1,v,S) ⟨by simp only;omega,by simp only;rw[hst];exact i2,i3⟩ xS ⟨.refl _,.refl _,trivial⟩ yS (.refl _)):P:=e
theorem pX(e:P:=by
 refine .mk (.refl _) ?_ ⟨rfl,rfl⟩
 repeat first|exact .refl _|refine .skip _ ?_):P:=e
theorem pY(e:P:=by
 apply kG
 intro hn
 apply hall
 intro j hj
 cases hv:ls.getD j false with
 | true=>rfl
 | false=>exact absurd ⟨j,hj,hv⟩ hn):P:=e
theorem pZ(e:P:=by
 rintro fr U hk hG -
 have q3:fr 3=.ro [vi 5,vs s,.list .none 4 (cJ a),vs ts,.list .none 2 (cI tl),.list .none 6 (cN [.mk gk gs ga (.mk gts gtl) gl,.mk ik is ia (.mk its itl) il])]:=hk 3 rfl
 try simp only[go_sem,seval,q3]
 exact hG):P:=e
theorem qb(e:P:=by
 try simp only[go_sem,seval,h0]
 exact hG):P:=e
theorem qe(e:P:=by
 rintro r S3 ⟨⟨v4,rfl,hv4⟩,hH3⟩
 try simp only[go_sem,seval]
 have hW:∀ x z,Has S (z::U.set b8 x):=fun x z=>(uH.set f8 x).cons z
 refine .mk (.refl _) (.refl _) ⟨⟨_,?_,hv4.base (hW _ _)⟩,(hW _ _).trans hH3⟩
 rfl):P:=e
theorem qg(e:P:=by
 try simp only[go_sem,seval,w3]
 exact .mk (i+1,S2) ⟨by dsimp only;omega,by dsimp only;rw[t1];exact h2⟩ xX ⟨.refl _,trivial⟩ yS (.refl _)):P:=e
theorem qh(e:P:=by
 simp only[jX,jq]
 refine je (fun p=>vb p) (decide_eq_decide.2 ?_)
 constructor
 ·rintro⟨k,a,b,c⟩;exact⟨k,by omega,b,c⟩
 ·rintro⟨k,a,b,c⟩
  refine⟨k,?_,b,c⟩
  by_cases e:k=n
  ·subst e;omega
  ·omega):P:=e
theorem qi(e:P:=by
 rintro q S l r x ⟨i1,i2,i3,i4,i5,i6⟩ hl hg
 have kl:=Xc.set hg x
 exact⟨i1,kl _ _ i2 xZ,kl _ _ i3 xZ,kl _ _ i4 xZ,i5.set (hH.fresh hl) _,i6.keep kl⟩):P:=e
theorem qj(e:P:=by
 induction σ with
 | nil=>rfl
 | cons p r ih =>
   obtain⟨b',z⟩:=p
   simp only[Store.get,Store.set] at k ⊢
   by_cases e:b'=b
   ·rw[gZ e] at k ⊢;injection k with k;rw[k]
   ·rw[ig e] at k ⊢;rw[ih k]):P:=e
theorem qk(e:P:=by exact .mk (Wk.tup2 (.nilN _ _) (.refl _)) ((hH.cons _).sub hnd) ⟨rfl,rfl⟩):P:=e
theorem qo(e:P:=by
 intro t ht k p hik hk hpt
 obtain⟨hkm,hpk⟩:=hzk k p hk
 have:=(hd.clash i k o p.1 t him hkm xh ho hpk hpt ht).2 hik
 cases hv:ls.getD k false with
 | false=>rfl
 | true=>rw[hl.bef this hv] at h2;cases h2):P:=e
theorem qp(e:P:=by
 try simp only[go_sem,seval]
 refine .mk (.refl _) (.refl _) ⟨hk9.trans hk2,.inr ⟨rfl,[m]++(ZK bd qf (l.take j) i++p),s2++ZK bd qf (l.drop (j+1)) i,?_,?_⟩⟩
 ·rw[t2,hp];simp[ju]
 ·simpa[ju] using hT):P:=e
theorem qx(e:P:=by
 refine full 0 ls a w hl hge (fun j hj=>?_) xh hc he
 have h0:(List.range m).countP (fun i=>!ls.getD i false)=0:=by omega
 rw[List.countP_eq_zero] at h0
 have:=h0 j (List.mem_range.2 hj)
 simpa using this):P:=e
theorem qA(e:P:=by
 have ho:ops[i]?=some ops[i]:=jK hs
 have:=List.all_eq_true.1 h3 _ (get i _ ho)
 simp only[kH,kD] at this
 rcases this with this|this
 ·omega
 ·exact hms _ _ (List.all_eq_true.1 this j (by simpa using hj))):P:=e
theorem qB(e:P:=by
 try simp only[go_sem,seval]
 intro b hb
 try simp only[go_sem,seval]
 exact .mk (.refl _) (.refl _) (h b hb)):P:=e
theorem qC(e:P:=by
 have e1:cK (l.take (i+1))=cK (l.take i)++[t.shape]:=by rw[cS,cS,jh,ht];simp
 have e2:=YO (cK l) (i+1)
 have e3:(cK l).take (i+1)=cK (l.take (i+1)):=by rw[cS,cS,jx]
 rw[e3,e1,ZL] at e2
 simpa[cP] using e2):P:=e
theorem qD(e:P:=by
 have e1:cR (l.take (j+1))=cR (l.take j)++[t.shape]:=by rw[dI,dI,jh,ht];simp
 have e2:=YO (cR l) (j+1)
 have e3:(cR l).take (j+1)=cR (l.take (j+1)):=by rw[dI,dI,jx]
 rw[e3,e1,ZL] at e2
 simpa[cP] using e2):P:=e
theorem qE(e:P:=by
 rintro fr S hk hG -
 have q3:fr 3=.ro [.list .none 1 (ZX ts),.list .none 3 (cZ cs),.list .none 4 (df ds),.list .none 8 (dx rs),.list .none 8 (dy qs)]:=hk 3 rfl
 try simp only[go_sem,seval,q3]
 exact hG):P:=e
theorem qG(e:P:=by
 rw[<- hc.defers]
 cases o.dst<;>rfl):P:=e
theorem qI(e:P:=by
 rw[ig hdt]
 refine Yh _ _ _ _ rfl (fun k p hk=>?_)
 simp only[jG]
 by_cases hki:k=i
 ·subst hki
  rw[hz] at hk
  injection hk with hk
  subst hk
  exact .inr hdt
 ·rw[ZM hs,ig hki];exact .inl rfl):P:=e
theorem qJ(e:P:=by
 rintro q S k x ⟨i1,i2,i3,i4,i5,i6⟩ hk
 have kl:=Xc.cons hk x
 exact⟨i1,kl _ _ i2 xZ,kl _ _ i3 xZ,kl _ _ i4 xZ,i5.cons _,i6.keep kl⟩):P:=e
theorem qL(e:P:=by
 rw[ho] at h;simp only[ZA] at h;intro a w hσ hop next Q hn hp;rw[ho] at hop
 exact ZT (v:=a.eval x) (by unfold execOp;rw[ho];rfl) (hn _ _ _ _ h (hop x yh) hσ (Ev.refl _ _))):P:=e
theorem qM(e:P:=by
 refine key ops.size _ fr0 σ0 a _ Sp (fun j _ _=>getD_none _ _) ?_ (Zf.refl _ _) g0 (fun i d _ h=>by rw[getD_none] at h;cases h) ⟨hc.defers,hc.fr.ev ev,hc.ok.drew⟩ ev
 have:=Sq m ops.size
 omega):P:=e
theorem qN(e:P:=by
 simp only[Dr.emb,Dr.cs,cM,kE,kF,dD,jv,iR,kI,Pm.emb]
 exact Wkl.agg ⟨by simpa[Zu] using v3,.list _ _ _,.list _ _ _,.refl _,.refl _,.refl _,.refl _,.refl _,.refl _,.refl _,.refl _,trivial⟩):P:=e
theorem qO(e:P:=by
 have x1:((i:Int)<(l.length:Int))=False:=iU xh
 rw[show l.take i=l from iW xh] at h2
 try simp only[go_sem,seval,cF,x0,x1,iV]
 exact .mk (.refl _) (.refl _) ⟨rfl,_,h2,t2⟩):P:=e
theorem qP(e:P:=by
 obtain⟨p,q⟩:=h.kp k x a b
 obtain⟨u,w⟩:=ht k x p xf (fun e=>q (.inr (hT k e)))
 exact⟨u,fun e=>e.elim (fun e=>q (.inl e)) (fun e=>(hT' k e).elim (fun e=>q (.inr e)) w)⟩):P:=e
theorem qQ(e:P:=by
 cases hx;cases hy;split at h<;>simp at h;subst h;rename_i e
 simp only[kJ] at e
 obtain⟨ms,hu⟩:=R7 e.2
 exact⟨_,by rw[jZ,RN (hyc e.1),kC];simp only[binOp,jZ,Tz hu];rfl,.val _⟩):P:=e
theorem qR(e:P:=by exact⟨.refl _ _ _ _,hG⟩):P:=e
theorem qS(e:P:=by rw[ZM hs,ig xh];exact hge j hj hjs):P:=e
theorem qT(e:P:=by exact .mk (.refl _) (.refl _) ⟨rfl,rfl⟩):P:=e
theorem qU(e:P:=by
 rw[Wu hk xR]
 simp only[kC]
 rw[Wu hk (by simpa using hb)]
 simp only[kC]
 rw[Qq hk hc hva hvb]
 simp only[kC]
 cases x with
 | false=>simp
 | true=>simpa using ih):P:=e
theorem qV(e:P:=by
 rw[hw i xh]
 exact .mk (i+1) ⟨by omega,by rw[hnx];exact hr⟩ xh ⟨.refl _,trivial⟩ yS (.refl _)):P:=e
theorem qW(e:P:=by
 rw[ki,kK]
 constructor
 ·rintro⟨⟨x,i⟩,h,rfl⟩
  rw[kN] at h
  exact⟨i,x,h,rfl⟩
 ·rintro⟨i,x,h,rfl⟩
  exact⟨(x,i),List.mem_zipIdx_iff_getElem?.2 h,rfl⟩):P:=e
theorem qX(e:P:=by
 rename_i he;split at h
 ·rename_i hu;split at h
  ·rename_i s hs;exact⟨_,h.2.2,by simp only[he,hu,hs];exact⟨h.1,h.2.1,trivial⟩⟩
  ·exact h.elim
 ·exact h.elim):P:=e
theorem qY(e:P:=by
 try simp only[go_sem,seval]
 exact .mk (.refl _) (.cons _ _) hr):P:=e
theorem qZ(e:P:=by
 intro q S hJ
 have h0:=fun k hk=>jo _ _ j0 k hk
 exact⟨fun h=>(by have:=h0 D h;rw[Zj hD] at this;cases this),fun h=>(by have:=h0 l h;rw[Zj fl.2] at this;cases this)⟩):P:=e
theorem ra(e:P:=by
 rw[e1] at hc
 refine W2 hd fuel m ls a w (kO _) hl (fun j hj=>⟨fun h=>?_,fun h=>hlt j h⟩) hf (hrest a w hc he)
 apply kP
 intro hle
 rw[hge j hle hj] at h
 cases h):P:=e
theorem rb(e:P:=by
 try simp only[go_sem,seval]
 refine⟨fun h=>?_,fun h=>⟨fun h2=>?_,fun h2=>?_⟩⟩
 ·rw[gZ h];exact Zl
 ·rw[ig h,gZ h2];exact Zl
 ·rw[ig h,ig h2];exact Zl):P:=e
theorem rc(e:P:=by
 rintro r U' ⟨⟨⟨v,rfl,hv⟩,hH⟩,hn⟩
 try simp only[go_sem,seval]
 exact⟨hH.sees hn,⟨hG.1.trans (hH.sees hn),hG.2.trans hH⟩,hv.base (H4.trans hG.2)⟩):P:=e
theorem re(e:P:=by
 intro k x hk hx
 rcases hS1 with rfl|⟨b0,e0,c0,hg,_,rfl⟩
 ·exact hk
 ·rw[Xi (fun e=>by rw[e,hg] at hk;injection hk with hk;exact hx _ _ hk.symm)];exact hk):P:=e
theorem rg(e:P:=by
 try simp only[go_sem,seval]
 refine hc.use ?_
 rw[hd]
 generalize Uh [] (Ty.mk s l)=e
 try simp only[go_sem,seval]
 refine⟨fun h=>Zs ?_,fun h=>Zs ?_⟩<;>simp[h]):P:=e
theorem rh(e:P:=by
 have x1:=iU hi2
 have e:l.take i=l:=iW xh
 rw[e] at iL
 try simp only[go_sem,seval,dw,x1,iV,iL.one,iL.cells]
 exact .mk (.refl _) (.refl _) ⟨v,rfl,iL,iH⟩):P:=e
theorem ri(e:P:=by exact .mk (.refl _) (.refl _) ⟨v,rfl,iL,iH⟩):P:=e
theorem rj(e:P:=by
 try simp only[go_sem,seval]
 refine⟨rfl,Zz (Wkl.agg ?_) ((Sub.refl σ).skip _)⟩
 exact⟨.refl _,.refl _,.nilN _ _,.refl _,.nilN _ _,.list _ _ _,trivial⟩):P:=e
theorem rk(e:P:=by exact⟨_,_,by simp[Builtin.len_,kB hu,goInt],.val _,h⟩):P:=e
theorem rl(e:P:=by
 have x1:=iS hn4
 try simp only[go_sem,seval,x1,iT]
 rw[Y8 _ xh]
 refine .mk (.refl _) (.inr ⟨by omega,rfl,?_⟩)
 rw[show n+1=4001 from by omega]):P:=e
theorem rp(e:P:=by
 try simp only[go_sem,seval]
 exact⟨.cons hb _,⟨by rw[Zg hb (by rw[hG.1];rfl)];exact hG.1,hG.2.cons _⟩,b,rfl,by show Store.get _ _=_;rw[Ze,he]⟩):P:=e
theorem rq(e:P:=by
 rintro c q S l r x ⟨i1,i2,i3,i5,i6⟩ hl hg
 have kl:=Xc.set hg x
 exact⟨i1,i2,kl _ _ i3 xZ,i5.set (hH.fresh hl) _,i6.keep kl⟩):P:=e
theorem rx(e:P:=by
 have:c=false:=by
  cases hcc:c with
  | false=>rfl
  | true=>obtain⟨i,hi,hb⟩:=hc.1 hcc;rw[hn i hi] at hb;cases hb
 rw[this];exact⟨rfl,rfl⟩):P:=e
theorem ry(e:P:=by
 obtain⟨a1,a2⟩:=mine _ _ h.go h.oo
 obtain⟨b1,b2⟩:=mine _ _ h.gr h.or
 exact{ h with sk:=sk',go:=a1,gr:=b1,oo:=a2,or:=b2,kp:=h.kp.call mine }):P:=e
theorem rz(e:P:=by
 cases hx;cases hy;split at h<;>simp at h;subst h;rename_i e
 obtain⟨ms,hu⟩:=R7 e;exact⟨_,by simp only[eqGuard,binOp,jZ,Uq hu];rfl,.val _⟩):P:=e
theorem rA(e:P:=by
 rintro r S' ⟨⟨v,rfl,hv,hh⟩,hn⟩
 try simp only[go_sem,seval]
 exact⟨hh.sees hn,⟨hG.1.trans (hh.sees hn),hG.2.trans hh⟩,hv.base hG.2⟩):P:=e
theorem rB(e:P:=by
 rintro fr U hk hG -
 have q7:fr 7=.val (.func (.func 205) #[] #[.pointer (some ⟨b5,0,none⟩)]):=hk 7 rfl
 try simp only[go_sem,seval,q7]
 exact hG):P:=e
theorem rC(e:P:=by
 rcases hs2 with rfl|rfl
 ·exact hd
 ·have:zs=[]:=by have:=hd.len;simpa using this
  subst this
  exact⟨by simp,by simp,by simp,by simp⟩):P:=e
theorem rD(e:P:=by
 refine .mk (.cons _ _) ⟨acc,hP,?_⟩
 rw[<- hc];rfl):P:=e
theorem rE(e:P:=by
 try simp only[go_sem,seval]
 exact⟨_,.refl _,hK⟩):P:=e
theorem rF(e:P:=by
 rintro q S k x ⟨h1,h2,h3⟩ hk
 exact⟨by rw[Zg hk xD];exact h1,by rw[Zg hk (by rw[h2];rfl)];exact h2,jc _ _ _ _ h3 hk⟩):P:=e
theorem rG(e:P:=by
 try simp only[go_sem,seval]
 intro fr'
 try simp only[go_sem,seval]
 exact .mk (.refl _) ⟨rfl,hH2,uF.kp.pn (hP2.imp fun _ e=>.inl e)⟩):P:=e
theorem rH(e:P:=by
 constructor
 ·rintro⟨x,hx,h⟩
  injection hx with hx _
  injection hx with hx
  subst hx
  exact h
 ·intro h;exact⟨_,rfl,h⟩):P:=e
theorem rI(e:P:=by
 rw[hx]
 try simp only[go_sem,seval]
 show Xf _ _ _ _ _
 try simp only[go_sem,seval]
 exact .mk (.refl _) (.cons _ _) ⟨rfl,e,J2,s2⟩):P:=e
theorem rJ(e:P:=by
 have z:=iU hkd
 rw[jY hkd,jS]
 clear hk hkd
 try simp only[go_sem,seval,z,iT,iV,jA,jB]
 exact .mk (.refl _) (jH.sub hnd) ⟨rfl,rfl⟩):P:=e
theorem rK(e:P:=by exact .mk (.refl _) (jH.sub hnd) ⟨by simp,rfl⟩):P:=e
theorem rL(e:P:=by
 have hi:i<cs.length:=by have:=(List.getElem?_eq_some_iff.1 hc).1;omega
 exact h i cs[i] c (iO hi) hc L w v (hh i cs[i] v (iO hi) hv)):P:=e
theorem rM(e:P:=by
 have hi:i<cs.length:=by have:=(List.getElem?_eq_some_iff.1 hc').1;omega
 exact(h i _ c' (iO hi) hc' w v ho (h2 i _ v (iO hi) hv)).1):P:=e
theorem rN(e:P:=by
 rintro fr S hk rfl -
 have q0:=hk 0 rfl
 try simp only[go_sem,seval,q0]):P:=e
theorem rO(e:P:=by
 have:i<us.length:=by rw[<- hl2];exact(List.getElem?_eq_some_iff.1 hi).1
 exact⟨us[i],by simp[this],hu i c _ hi (iO this)⟩):P:=e
theorem rP(e:P:=by
 unfold Tl at h
 cases hd:dr[i]? with
 | none=>rw[hd] at h;cases h
 | some x=>rw[<- hlen];exact(List.getElem?_eq_some_iff.1 hd).1):P:=e
theorem rQ(e:P:=by
 have:i<vs.length:=by rw[<- hl];exact(List.getElem?_eq_some_iff.1 hi).1
 exact⟨vs[i],by simp[this],hv i c _ hi (iO this)⟩):P:=e
theorem rR(e:P:=by
 rintro fr S hk hG -
 have q2:fr 2=.ro [.list .none 1 (Zu bound),.val (.map q)]:=hk 2 rfl
 try simp only[go_sem,seval,q2]
 exact hG):P:=e
theorem rS(e:P:=by
 apply kG
 intro hc
 apply ha
 intro e he hb
 cases hv:ls.getD e.on false with
 | true=>rfl
 | false=>exact absurd ⟨e,he,hb,hv⟩ hc):P:=e
theorem rT(e:P:=by exact .mk (.refl _) ((Sub.cons _ _).trans (.cons _ _)) ⟨rfl,rfl⟩):P:=e
theorem rU(e:P:=by exact⟨g3,keepAll _ a2,.inr ⟨rfl,.exit i,.inr ⟨i,rfl⟩,⟨_,Zd g3,rfl,rfl⟩,getD3 _ a2,ts _ _ _ _ _ _ a1 fl.2 g3⟩⟩):P:=e
theorem rV(e:P:=by
 refine hc.mono ?_
 rintro r S' ⟨rfl,e',hJ,hS⟩
 try simp only[go_sem,seval]
 exact .mk (.refl _) (.refl _) ⟨rfl,e',hJ,hS⟩):P:=e
theorem rW(e:P:=by
 apply kG
 intro hn
 refine hz (fun j hj=>?_)
 cases hlj:ls.getD j false with
 | true=>rfl
 | false=>exact absurd ⟨j,hj,hlj⟩ hn):P:=e
theorem rX(e:P:=by
 obtain⟨rt,s',e,hz,ht⟩:=h
 exact⟨rt,s',e,hz,ht.imp id (fun⟨b,e,c,h1,h2,h3,h4⟩=>⟨b,e,c,h1,h2,h3,k.fresh h4⟩)⟩):P:=e
theorem rY(e:P:=by
 rw[h6]
 exact hargs.put (a:={ tmps:=_,defers:=[] }) (d:=some d) (fun k hk=>Xh (hall o ir) k (by rw[h6];exact hk)) (.val rv)):P:=e
theorem rZ(e:P:=by
 obtain⟨rt,s',e,hz,ht⟩:=h
 exact⟨rt,s',e,hz,ht.imp id (fun⟨b,e,c,h1,h2,h3,h4⟩=>⟨b,e,c,h1,h2,k _ _ h3,h4⟩)⟩):P:=e
theorem se(e:P:=by
 rcases List.mem_cons.1 h with rfl|h
 ·omega
 ·have:=ih h;omega):P:=e
theorem sf(e:P:=by
 have z2:((tl.length:Int) > 0)=True:=iS xh
 rw[jY t1]
 try simp only[go_sem,seval,cG,z1,z2,iT,iV]
 exact Zs xf):P:=e
theorem sg(e:P:=by exact⟨y,w,av,σ,by simp[builtin,r1],r2,hσ,Ev.refl _ _,r3⟩):P:=e
theorem sj(e:P:=by
 try simp only[go_sem,seval]
 exact .mk (.cons _ _) ⟨rfl,rfl⟩):P:=e
theorem sm(e:P:=by
 obtain⟨p,q⟩:=hk k x hx hn
 have hkb:k≠b:=fun e=>q (by rw[e];exact hb)
 exact⟨by rw[hZ k hkb hnb];exact p,q⟩):P:=e
theorem sr(e:P:=by rename_i hu;exact⟨_,h,by simp only[hu]⟩):P:=e
theorem ss(e:P:=by exact⟨g3,keepAll _ a2,.inr ⟨rfl,.ret,.inl rfl,⟨_,Zd g3,rfl,rfl⟩,getD3 _ a2,ts _ _ _ _ _ _ a1 fl.2 g3⟩⟩):P:=e
theorem sw(e:P:=by
 simp only[jp,kQ] at hc
 obtain⟨v',hv',rfl⟩:=hc
 rw[hv] at hv'
 injection hv' with hv'
 subst hv'
 exact eU _ _ _):P:=e
theorem sA(e:P:=by
 rintro r _ ⟨rfl,rfl⟩
 try simp only[go_sem,seval]
 exact Zz (.refl _) (((Sub.refl σ).skip _).skip _ |>.skip _)):P:=e
theorem sB(e:P:=by
 cases x3 with
 | true=>try simp only[go_sem,seval];exact Us rfl
 | false=>try simp only[go_sem,seval];exact Us rfl):P:=e
theorem sC(e:P:=by
 have z:((nl.length:Int)=0)=False:=iU xh
 rw[jY hz]
 try simp only[go_sem,seval,ZZ,z,iV]
 exact Zs xf):P:=e
theorem sD(e:P:=by
 have hb:=World.block_lt_of_cell? w _ hcell
 exact⟨fun hl=>hn (hL _ _ hb hl),(hc _ _ hb hn).trans hcell,h1c⟩):P:=e
theorem sE(e:P:=by
 rw[<- hfull]
 funext t
 refine Yh _ _ _ _ rfl (fun k p hk=>.inl ?_)
 simp only[jG]
 exact hlt k (hzk k p hk).1):P:=e
theorem sF(e:P:=by
 rintro q S ⟨h1,h2,h3⟩ k hk
 rcases List.mem_cons.1 hk with rfl|hk
 ·rw[h1];rfl
 ·exact jo _ _ h3 k hk):P:=e
theorem sG(e:P:=by
 cases p<;>cases q<;>try rfl
 simp only;generalize σ.get b=r
 cases r with
 | none=>rfl
 | some x=>cases x<;>rfl):P:=e
theorem sH(e:P:=by
 refine Yh _ _ _ _ rfl (fun k p hk=>.inl ?_)
 simp only[jG]
 rw[ZM hs,ig (by have:=(hzk k p hk).1;omega)]):P:=e
theorem sJ(e:P:=by
 apply kP
 intro hle
 have:=hl.bef_ready (hd.tail i j0 hle h1 xh) hi
 rw[hl0] at this
 cases this):P:=e
theorem sK(e:P:=by
 rcases h with h|h
 ·exact(VZ bd x q a _ n h).imp id .inl
 ·exact(TO bd x q l _ n h).imp id .inr):P:=e
theorem sL(e:P:=by
 by_cases e2:j=i
 ·rw[e2,hy];intro hh;injection hh with hh;exact e hh.symm
 ·exact hb j xh):P:=e
theorem sM(e:P:=by
 have hi:YG f grp g e A=true:=by simp only[YG,fa,h2,fu2];simp[hg0];omega
 rw[<- ho];simp[Yy,hi]):P:=e
theorem sN(e:P:=by
 obtain⟨rt,s',rfl,hz,_⟩:=h
 rcases hz with rfl|rfl
 ·exact .list _ _ _
 ·exact .nilA _ _ _):P:=e
theorem sQ(e:P:=by
 unfold UD at h
 split at h
 ·injection h with h;subst h;rfl
 ·rename_i e _ _;cases e
 ·cases h):P:=e
theorem sR(e:P:=by
 rintro fr U hk hG ⟨h0,-⟩
 try simp only[go_sem,seval,h0,e0,e1,x0,x1,jf,jg,jq,jr,jt]
 exact hG):P:=e
theorem sS(e:P:=by
 try simp only[go_sem,seval]
 exact .mk (.refl _) (.refl _) ⟨hkb,.inr ⟨rfl,[m],_,rfl,hT⟩⟩):P:=e
theorem sU(e:P:=by
 intro b1 hb1
 have hne:=ZI hb1 hb
 try simp only[go_sem,seval,hne,hb]
 exact⟨_,.cons _ _,hK⟩):P:=e
theorem sV(e:P:=by exact hb j xh (by rw[<- hx];exact iO hj)):P:=e
theorem sW(e:P:=by exact⟨k,.one rfl (.val _),by simp[uptoBulk]⟩):P:=e
theorem sX(e:P:=by
 simp only[Instr.typeAssert,jZ,kB hd,kC]
 cases d<;>first|(simp[Z7] at h2;done)|(simp)):P:=e
theorem sY(e:P:=by
 have:=List.all_eq_true.1 (List.all_eq_true.1 h1 _ (get i o ho)) e he
 simpa[hb] using this):P:=e
theorem sZ(e:P:=by
 intro a' w' hc' he'
 refine ih _ a' w' (hl.set hi) hge2 hsl2 hcnt ?_ he'
 rw[hup]
 exact hc'):P:=e
theorem tc(e:P:=by
 unfold VC lnL;generalize P.underlying t=d;cases d with
 | none=>rfl
 | some d=>cases d<;>rfl):P:=e
theorem te(e:P:=by
 rintro fr U hk hG -
 have q1:fr 1=vi env:=hk 1 rfl
 try simp only[go_sem,seval,q1]
 exact hG):P:=e
theorem tg(e:P:=by exact⟨j,Yl.2 ⟨hs,by rw[Xj ym];exact hl,ops[j],jK hs,ha⟩⟩):P:=e
theorem th(e:P:=by
 try simp only[go_sem,seval]
 exact⟨fun h=>Zs xm,fun h=>Zs xm⟩):P:=e
theorem ti(e:P:=by
 try simp only[go_sem,seval,g3,g4]
 exact .mk (.refl _) (.refl _) ⟨by simp,e,j12,s12⟩):P:=e
theorem tj(e:P:=by
 rintro fr S hk hG -
 have q:=(hk 1 rfl).trans f1
 try simp only[go_sem,seval,q]
 exact hG):P:=e
theorem tp(e:P:=by
 rw[hx] at hvd
 generalize hq:a.tmps.getD d undef=v at hvd
 cases hvd
 injection h with h):P:=e
theorem tq(e:P:=by
 obtain⟨i,hi⟩:=key j j (kO _) hj hl
 intro e
 rw[e] at hi
 exact absurd hi xf):P:=e
theorem tu(e:P:=by
 intro g cap w' he
 simp only[invoke,XN he]
 simp):P:=e
theorem tw(e:P:=by
 have z1:=iU t0
 rw[jY t0]
 try simp only[go_sem,seval,cG,z1,iT,iV]
 exact Zs xf):P:=e
theorem tA(e:P:=by
 rw[<- hk]
 intro A sn r σ gk gr hsn
 refine Zh.ok xy (fun hok=>?_)
 have hlen:=(((hok _ (kR _ ir)).agg (c:=.list .none 9 (cY l)) xu).len)
 rw[cH] at hlen
 clear hok
 have hp:=U4 k
 have hn:=Wj s
 rw[Yr]
 simp only[cV]
 obtain⟨bL,fL⟩:∃ b,decide ((l.length:Int)=V6 k)=b:=⟨_,rfl⟩
 obtain⟨bN,fN⟩:∃ b,ZC 1 s=b:=⟨_,rfl⟩
 obtain⟨bS,fS⟩:∃ b,decide (s=Xu)=b:=⟨_,rfl⟩
 obtain⟨bA,fA⟩:∃ b,decide (0<(a.length:Int))=b:=⟨_,rfl⟩
 obtain⟨bn,fn⟩:∃ b,decide (n=0)=b:=⟨_,rfl⟩
 obtain⟨bs,fs⟩:∃ b,decide (ts=Xu)=b:=⟨_,rfl⟩
 obtain⟨bl,fl⟩:∃ b,decide (0<(tl.length:Int))=b:=⟨_,rfl⟩
 obtain⟨bg,fg⟩:∃ b,decide (g=0)=b:=⟨_,rfl⟩
 obtain⟨be,fe⟩:∃ b,decide (0<(e.length:Int))=b:=⟨_,rfl⟩
 have fA2:decide (a.length=0)=!bA:=by rw[<- fA,<- jm];exact decide_eq_decide.2 xh
 have fl2:decide (tl.length=0)=!bl:=by rw[<- fl,<- jm];exact decide_eq_decide.2 xh
 have fe2:decide (e.length=0)=!be:=by rw[<- fe,<- jm];exact decide_eq_decide.2 xh
 rw[fN] at hn
 have gk':=gk
 unfold ckO at gk'
 obtain⟨o,ho⟩:∃ o,Yy f grp locals base k (.mk ts tl) n g e A sn=o:=⟨_,rfl⟩
 rw[ho]
 have hfk:∀ {b:Nat},Zm σ b->b≠bk:=fun h e=>by have:=Zj h;rw[e,gk] at this;cases this
 have hfr:∀ {b:Nat},Zm σ b->b≠r:=fun h e=>by have:=Zj h;rw[e,gr] at this;cases this
 have hkr:bk≠r:=fun e=>by rw[e,gr] at gk;cases gk
 subst hk
 refine Zb [5] [(3,6,0),(8,39,0),(14,33,0)] Tryz.func109 rfl xy ?_;rw[kV,kW]
 try simp only[go_sem,seval]
 intro b5 hb5
 try simp only[go_sem,seval,cH]
 refine hp.head ?_
 try simp only[go_sem,seval,cH,cF,cG,io,fL,fS,fA,fn,fs,fl,fg,fe,iT,iV,jm]
 cases bL
 ·exact nR
 try simp only[go_sem,seval,cH,cF,cG,io,fL,fS,fA,fn,fs,fl,fg,fe,iT,iV,jm]
 cases bS
 ·exact nR
 try simp only[go_sem,seval,cH,cF,cG,io,fL,fS,fA,fn,fs,fl,fg,fe,iT,iV,jm]
 cases bA
 rotate_left
 ·exact nR
 try simp only[go_sem,seval,cH,cF,cG,io,fL,fS,fA,fn,fs,fl,fg,fe,iT,iV,jm]
 cases bg
 ·exact nR
 try simp only[go_sem,seval,cH,cF,cG,io,fL,fS,fA,fn,fs,fl,fg,fe,iT,iV,jm]
 cases be
 rotate_left
 ·exact nR
 try simp only[go_sem,seval,cH,cF,cG,io,fL,fS,fA,fn,fs,fl,fg,fe,iT,iV,jm]
 obtain⟨bq,fq⟩:∃ b,decide (n=base+(sn:Int))=b:=⟨_,rfl⟩
 try simp only[go_sem,seval,cH,cF,cG,cL,io,fL,fS,fA,fn,fs,fl,fg,fe,iT,iV,jm,Zc (hfk hb5),Zo (hfk hb5),Zd gk',Zx,gk',fq]
 cases bq
 ·try simp only[go_sem,seval,cH,cF,cG,cL,io,fL,fS,fA,fn,fs,fl,fg,fe,iT,iV,jm,Zc (hfk hb5),Zo (hfk hb5),Zd gk',Zx,gk',fq]
  have hst:o=none:=by clear ih;rw[<- ho];clear ho;simp[Yy,W6,YG, *]
  simp only[hst,kX]
  exact od
 try simp only[go_sem,seval,cH,cF,cG,cL,io,fL,fS,fA,fn,fs,fl,fg,fe,iT,iV,jm,Zc (hfk hb5),Zo (hfk hb5),Zd gk',Zx,gk',fq]
 refine⟨fun h1=>⟨by simp[apZ],?_⟩,fun h1=>?_⟩
 rotate_left
 ·have h2:locals[sn]?=none:=jE xh
  try simp only[go_sem,seval,cH,cF,cG,cL,io,fL,fS,fA,fn,fs,fl,fg,fe,iT,iV,jm,Zc (hfk hb5),Zo (hfk hb5),Zd gk',Zx,gk',fq]
  have hst:o=none:=by clear ih;rw[<- ho];clear ho;simp[Yy,W6,YG, *]
  simp only[hst,kX]
  exact od
 have h2:locals[sn]?=some locals[sn]:=iO xh
 generalize locals[sn]=u at h2
 refine(VS [.mk ts tl] .full 2 (.inl rfl)).head ?_
 obtain⟨bf,ff⟩:∃ b,Z1 (.mk ts tl)=b:=⟨_,rfl⟩
 simp only[kY,kZ,lf,ff]
 cases bf
 ·try simp only[go_sem,seval,cH,cF,cG,cL,io,fL,fS,fA,fn,fs,fl,fg,fe,iT,iV,jm,Zc (hfk hb5),Zo (hfk hb5),Zd gk',Zx,gk',fq]
  have hst:o=none:=by clear ih;rw[<- ho];clear ho;simp[Yy,W6,YG, *]
  simp only[hst,kX]
  exact od
 try simp only[go_sem,seval,cH,cF,cG,cL,io,fL,fS,fA,fn,fs,fl,fg,fe,iT,iV,jm,Zc (hfk hb5),Zo (hfk hb5),Zd gk',Zx,gk',fq]
 refine⟨by omega,by omega,fun c hc=>?_⟩
 rw[iF] at hc
 obtain⟨u',hu,rfl⟩:=dJ hc
 obtain rfl:u=u':=by rw[h2] at hu;injection hu
 have hsame:=Qn (.mk ts tl) u
 rw[ff,jz] at hsame
 obtain⟨bu,fu⟩:∃ b,(Z1 u&&UC (.mk ts tl) u)=b:=⟨_,rfl⟩
 rw[fu] at hsame
 obtain⟨us,ul⟩:=u
 simp only[cQ] at hsame ⊢
 try simp only[go_sem,seval,cH,cF,cG,cL,io,fL,fS,fA,fn,fs,fl,fg,fe,iT,iV,jm,Zc (hfk hb5),Zo (hfk hb5),Zd gk',Zx,gk',fq]
 refine hsame.use ?_
 cases bu
 ·try simp only[go_sem,seval,cH,cF,cG,cL,io,fL,fS,fA,fn,fs,fl,fg,fe,iT,iV,jm,Zc (hfk hb5),Zo (hfk hb5),Zd gk',Zx,gk',fq]
  have hst:o=none:=by clear ih;rw[<- ho];clear ho;simp[Yy,W6,YG, *]
  simp only[hst,kX]
  exact od
 try simp only[go_sem,seval,cH,cF,cG,cL,io,fL,fS,fA,fn,fs,fl,fg,fe,iT,iV,jm,Zc (hfk hb5),Zo (hfk hb5),Zd gk',Zx,gk',fq]
 have hw1:IntKind.i64.wrap (base+(sn:Int)+1)=base+((sn+1:Nat):Int):=by rw[Zk xh xh];omega
 have hw2:IntKind.i64.wrap ((sn:Int)+1)=((sn+1:Nat):Int):=Zk xh xh
 rw[hw1,hw2]
 have hck:AObj.cells [.list .none 2 (cX f.groups),.list .none 1 (Zu f.rules),vi grp,.list .none 2 (cI locals),vi (base+((sn+1:Nat):Int)),vi ((sn+1:Nat):Int)]=ckO f grp locals base (sn+1):=rfl
 rw[hck]
 refine(GS _ r A n (by rw[Zc (hfr hb5),Za (iC hkr)];exact gr)).mono ?_
 rintro w S' ⟨R,B,hw,fr',hS',hB⟩
 rw[hw,hS']
 try simp only[go_sem,seval,Zo (iC fr'.1),Zc (iC fr'.1)]
 have hst:o=some (n::A,sn+1):=by clear ih;rw[<- ho];clear ho;simp[Yy,W6, *]
 have hq:sn+1<=locals.length:=by omega
 obtain⟨q,hqe⟩:∃ q,q=sn+1:=⟨_,rfl⟩
 rw[<- hqe] at hq hst ⊢
 rw[hst,gZ yO]
 simp only
 have hBc:∀ y,y∈n::A↔y∈B:=fun y=>by rw[hB];simp
 rw[UH hBc,WQ f grp locals base l _ _ q hBc]
 obtain⟨T,hT⟩:∃ T:Store,T=(R,AObj.map (ZS keI (Yj B)) B.length)::(b5,.cells [.val (.map (some R))])::σ.set bk (ckO f grp locals base q):=⟨_,rfl⟩
 have n5k:=hfk hb5
 have nRk:R≠bk:=fun e=>by have:=Zj fr'.2;rw[e,Zd gk] at this;cases this
 have hTb:∀ y,T.set bk y=(R,AObj.map (ZS keI (Yj B)) B.length)::(b5,.cells [.val (.map (some R))])::σ.set bk y:=fun y=>by rw[hT,Zo nRk,Zo n5k,Zx]
 have gTR:T.get R=some (AObj.map (ZS keI (Yj B)) B.length):=by rw[hT,Ze]
 have gT5:T.get b5=some (.cells [.val (.map (some R))]):=by rw[hT,Zc (iC fr'.1),Ze]
 have gTk:T.get bk=some (ckO f grp locals base q):=by rw[hT,Zc nRk,Zc n5k,Zd gk]
 have hTs:∀ y,Sub (σ.set bk y) (T.set bk y):=fun y=>by rw[hTb];exact((Sub.refl _).skip _).skip _
 exact nP):P:=e
theorem tC(e:P:=by
 rw[<- hk]
 intro A sn r σ gk gr hsn
 refine Zh.ok xy (fun hok=>?_)
 have hlen:=(((hok _ (kR _ ir)).agg (c:=.list .none 9 (cY l)) xu).len)
 rw[cH] at hlen
 clear hok
 have hp:=U4 k
 have hn:=Wj s
 rw[Yr]
 simp only[cV]
 obtain⟨bL,fL⟩:∃ b,decide ((l.length:Int)=V6 k)=b:=⟨_,rfl⟩
 obtain⟨bN,fN⟩:∃ b,ZC 1 s=b:=⟨_,rfl⟩
 obtain⟨bS,fS⟩:∃ b,decide (s=Xu)=b:=⟨_,rfl⟩
 obtain⟨bA,fA⟩:∃ b,decide (0<(a.length:Int))=b:=⟨_,rfl⟩
 obtain⟨bn,fn⟩:∃ b,decide (n=0)=b:=⟨_,rfl⟩
 obtain⟨bs,fs⟩:∃ b,decide (ts=Xu)=b:=⟨_,rfl⟩
 obtain⟨bl,fl⟩:∃ b,decide (0<(tl.length:Int))=b:=⟨_,rfl⟩
 obtain⟨bg,fg⟩:∃ b,decide (g=0)=b:=⟨_,rfl⟩
 obtain⟨be,fe⟩:∃ b,decide (0<(e.length:Int))=b:=⟨_,rfl⟩
 have fA2:decide (a.length=0)=!bA:=by rw[<- fA,<- jm];exact decide_eq_decide.2 xh
 have fl2:decide (tl.length=0)=!bl:=by rw[<- fl,<- jm];exact decide_eq_decide.2 xh
 have fe2:decide (e.length=0)=!be:=by rw[<- fe,<- jm];exact decide_eq_decide.2 xh
 rw[fN] at hn
 have gk':=gk
 unfold ckO at gk'
 obtain⟨o,ho⟩:∃ o,Yy f grp locals base k (.mk ts tl) n g e A sn=o:=⟨_,rfl⟩
 rw[ho]
 have hfk:∀ {b:Nat},Zm σ b->b≠bk:=fun h e=>by have:=Zj h;rw[e,gk] at this;cases this
 have hfr:∀ {b:Nat},Zm σ b->b≠r:=fun h e=>by have:=Zj h;rw[e,gr] at this;cases this
 have hkr:bk≠r:=fun e=>by rw[e,gr] at gk;cases gk
 subst hk
 refine Zb [5] [(3,6,0),(8,39,0),(14,33,0)] Tryz.func109 rfl xy ?_;rw[kV,kW]
 try simp only[go_sem,seval]
 intro b5 hb5
 try simp only[go_sem,seval,cH]
 refine hp.head ?_
 try simp only[go_sem,seval,cH,cF,cG,io,fL,fS,fA,fn,fs,fl,fg,fe,iT,iV,jm]
 cases bL
 ·exact nR
 try simp only[go_sem,seval,cH,cF,cG,io,fL,fS,fA,fn,fs,fl,fg,fe,iT,iV,jm]
 cases bS
 ·exact nR
 try simp only[go_sem,seval,cH,cF,cG,io,fL,fS,fA,fn,fs,fl,fg,fe,iT,iV,jm]
 cases bA
 rotate_left
 ·exact nR
 try simp only[go_sem,seval,cH,cF,cG,io,fL,fS,fA,fn,fs,fl,fg,fe,iT,iV,jm]
 cases bn
 ·exact nR
 try simp only[go_sem,seval,cH,cF,cG,io,fL,fS,fA,fn,fs,fl,fg,fe,iT,iV,jm]
 cases bs
 ·exact nR
 try simp only[go_sem,seval,cH,cF,cG,io,fL,fS,fA,fn,fs,fl,fg,fe,iT,iV,jm]
 cases bl
 rotate_left
 ·exact nR
 try simp only[go_sem,seval,cH,cF,cG,io,fL,fS,fA,fn,fs,fl,fg,fe,iT,iV,jm]
 obtain⟨bq,fq⟩:∃ b,decide (g<=grp)=b:=⟨_,rfl⟩
 try simp only[go_sem,seval,cH,cF,cG,cL,io,fL,fS,fA,fn,fs,fl,fg,fe,iT,iV,jm,Zc (hfk hb5),Zo (hfk hb5),Zd gk',Zx,gk',fq]
 cases bq
 rotate_left
 ·try simp only[go_sem,seval,cH,cF,cG,cL,io,fL,fS,fA,fn,fs,fl,fg,fe,iT,iV,jm,Zc (hfk hb5),Zo (hfk hb5),Zd gk',Zx,gk',fq]
  have hi:YG f grp g e A=false:=by
   have h:¬ grp<g:=by have:=of_decide_eq_true fq;omega
   simp only[YG,jY h,jS]
  have hst:o=none:=by rw[<- ho];simp[Yy,hi]
  simp only[hst,kX]
  exact od
 have hg0:grp<g:=by simpa using fq
 try simp only[go_sem,seval,cH,cF,cG,cL,io,fL,fS,fA,fn,fs,fl,fg,fe,iT,iV,jm,Zc (hfk hb5),Zo (hfk hb5),Zd gk',Zx,gk',fq]
 refine⟨fun h1=>⟨by omega,by omega,fun c hc=>?_⟩,fun h1=>?_⟩
 rotate_left
 ·have h2:f.groups[g.toNat]?=none:=jE xh
  try simp only[go_sem,seval,cH,cF,cG,cL,io,fL,fS,fA,fn,fs,fl,fg,fe,iT,iV,jm,Zc (hfk hb5),Zo (hfk hb5),Zd gk',Zx,gk',fq]
  have hi:YG f grp g e A=false:=by simp only[YG,h2];simp
  have hst:o=none:=by rw[<- ho];simp[Yy,hi]
  simp only[hst,kX]
  exact od
 obtain⟨u,h2,rfl⟩:=dS hc
 obtain⟨bu,fu⟩:∃ b,decide ((e.length:Int)=u.env.length)=b:=⟨_,rfl⟩
 have fu2:decide (e.length=u.env.length)=bu:=by rw[<- fu];exact decide_eq_decide.2 xh
 try simp only[go_sem,seval,FGroup.emb,cG,io,fu,jm]
 cases bu
 ·try simp only[go_sem,seval,cH,cF,cG,cL,io,fL,fS,fA,fn,fs,fl,fg,fe,iT,iV,jm,Zc (hfk hb5),Zo (hfk hb5),Zd gk',Zx,gk',fq]
  have hi:YG f grp g e A=false:=by simp only[YG,h2,fu2];simp
  have hst:o=none:=by rw[<- ho];simp[Yy,hi]
  simp only[hst,kX]
  exact od
 try simp only[go_sem,seval,cH,cF,cG,cL,io,fL,fS,fA,fn,fs,fl,fg,fe,iT,iV,jm,Zc (hfk hb5),Zo (hfk hb5),Zd gk',Zx,gk',fq]
 have gb5:Store.get ((b5,AObj.cells [.val (.map (some r))])::σ) b5=some (.cells [.val (.map (some r))]):=Ze _ _ _
 have gbr:Store.get ((b5,AObj.cells [.val (.map (some r))])::σ) r=some (.map (ZS keI (Yj A)) A.length):=by rw[Zc (hfr hb5),gr]
 refine(QW A r b5 e .none 1 (.inl rfl) _ gb5 gbr).only ?_
 obtain⟨ba,fa⟩:∃ b,(e.any fun n=>!decide (n∈A))=b:=⟨_,rfl⟩
 rw[fa]
 cases ba
 rotate_left
 ·try simp only[go_sem,seval]
  have hst:o=none:=by
   have hi:YG f grp g e A=false:=by simp only[YG,fa];simp
   rw[<- ho];simp[Yy,hi]
  simp only[hst,kX]
  exact od
 try simp only[go_sem,seval]
 have hst:o=some (A,sn):=by
  exact sM
 have hq:sn<=locals.length:=hsn
 rw[hst,gZ yR]
 simp only
 obtain⟨q,hqe⟩:∃ q,q=sn:=⟨_,rfl⟩
 rw[<- hqe] at hq gk ⊢
 obtain⟨B,hBe⟩:∃ B,B=A:=⟨_,rfl⟩
 rw[<- hBe] at gr ⊢
 obtain⟨R,hRe⟩:∃ R,R=r:=⟨_,rfl⟩
 rw[<- hRe] at gr hkr ⊢
 obtain⟨T,hT⟩:∃ T:Store,T=(b5,.cells [.val (.map (some R))])::σ:=⟨_,rfl⟩
 have n5k:=hfk hb5
 have nRk:R≠bk:=iC hkr
 have hTb:∀ y,T.set bk y=(b5,.cells [.val (.map (some R))])::σ.set bk y:=fun y=>by rw[hT,Zo n5k]
 have gTR:T.get R=some (AObj.map (ZS keI (Yj B)) B.length):=by rw[hT,Zc (by rw[hRe];exact hfr hb5)];exact gr
 have gT5:T.get b5=some (.cells [.val (.map (some R))]):=by rw[hT,Ze]
 have gTk:T.get bk=some (ckO f grp locals base q):=by rw[hT,Zc n5k];exact gk
 have hTs:∀ y,Sub (σ.set bk y) (T.set bk y):=fun y=>by rw[hTb];exact(Sub.refl _).skip _
 exact nP):P:=e
theorem tD(e:P:=by
 have hq:sn<=locals.length:=hsn
 rw[hst,gZ yR]
 simp only
 obtain⟨q,hqe⟩:∃ q,q=sn:=⟨_,rfl⟩
 rw[<- hqe] at hq gk ⊢
 obtain⟨B,hBe⟩:∃ B,B=A:=⟨_,rfl⟩
 rw[<- hBe] at gr ⊢
 obtain⟨R,hRe⟩:∃ R,R=r:=⟨_,rfl⟩
 rw[<- hRe] at gr hkr ⊢
 obtain⟨T,hT⟩:∃ T:Store,T=(b5,.cells [.val (.map (some R))])::σ:=⟨_,rfl⟩
 have n5k:=hfk hb5
 have nRk:R≠bk:=iC hkr
 have hTb:∀ y,T.set bk y=(b5,.cells [.val (.map (some R))])::σ.set bk y:=fun y=>by rw[hT,Zo n5k]
 have gTR:T.get R=some (AObj.map (ZS keI (Yj B)) B.length):=by rw[hT,Zc (by rw[hRe];exact hfr hb5)];exact gr
 have gT5:T.get b5=some (.cells [.val (.map (some R))]):=by rw[hT,Ze]
 have gTk:T.get bk=some (ckO f grp locals base q):=by rw[hT,Zc n5k];exact gk
 have hTs:∀ y,Sub (σ.set bk y) (T.set bk y):=fun y=>by rw[hTb];exact(Sub.refl _).skip _
 exact nP):P:=e
theorem tF(e:P:=by
 refine hst.mono ?_
 rintro r S' ⟨hkb,(⟨rfl,hI'⟩|⟨rfl,hT⟩)⟩
 ·try simp only[go_sem,seval]
  refine Zp (mu:=[]) (dr:=[]) [7,12,72,73,74,75,76,77,78,79,80,81] (fun x:Nat×Store=>[(72,vi x.1)]) (fun x=>x.2)
   (fun x=>x.1<=l.length/\I (q++([m]++ZK bd qf (l.take x.1) i)) x.2/\Yb own σ x.2) (fun x=>l.length-x.1) (0,S') xy ⟨by simp,by simpa[ZK] using hI',hkb⟩ ⟨.refl _,trivial⟩ (.refl _) ?_
  clear hI' hkb
  rintro⟨j,S⟩ ⟨hj,hIj,hkS⟩
  dsimp only at hj hIj hkS
  by_cases hj2:(j:Int)<(l.length:Int)
  ·have x1:=iS hj2
   have x0:(0<=(j:Int))=True:=iS xh
   obtain⟨a,ha⟩:∃ a,l[j]?=some a:=⟨l[j]' xh,iO xh⟩
   have g:(cJ l)[j]?=some a.emb:=by rw[cW,jp,ha];rfl
   have hw3:IntKind.i64.wrap ((j:Int)+1)=((j+1:Nat):Int):=Zk xh xh
   have hma:=iG ha
   have hka:=hkid a hma
   have gyS:=hkS _ _ gy ny xf
   have gtS:=hkS _ _ gt nt xf
   obtain⟨t1,t2⟩:=X3 bd qf i ha
   have iha:=ih a hma i
   have hsa:=hs2 a hma
   have hqn2:=je List.length t2
   simp only[ii] at hqn2
   generalize Wz bd qf a i=ta at iha t1 t2 hqn2
   obtain⟨ka,na,sa,la⟩:=a
   simp only[cO] at g iha
   try simp only[go_sem,seval,cF,x0,x1,g,iT,iF,jq,jr,jt]
   intro b9 hb9
   have gt9:=(Zg hb9 xI (.cells [vi ka,vi na,vs sa,.list .none 4 (cJ la)])).trans gtS
   have gy9:=(Zg hb9 xH (.cells [vi ka,vi na,vs sa,.list .none 4 (cJ la)])).trans gyS
   have hI9:=hy.cons _ _ _ (.cells [vi ka,vi na,vs sa,.list .none 4 (cJ la)]) hIj hb9
   have hk9:Yb own σ ((b9,.cells [vi ka,vi na,vs sa,.list .none 4 (cJ la)])::S):=fun k x h1 h2 h3=>by rw[Zg hb9 yu];exact hkS k x h1 h2 h3
   try simp only[go_sem,seval,gt9,Wd]
   refine(iha _ _ hsa xh yv hI9 gy9 gt9).mono ?_
   rintro r S2 ⟨hk2,(⟨rfl,h2⟩|⟨rfl,p,s2,hp,hT⟩)⟩
   ·exact oe
   ·exact qp
  ·exact oT
 ·exact sS):P:=e
theorem tG(e:P:=by
 try simp only[go_sem,seval,cH,cF,cG,io,k1,k7,k8,k10,k11,fL,fS,fA,fn,fs,fl,fg,fe,iT,iV,jm]
 rw[ig (by simp only[Yg,ZO,k1,k7,k8,k10,k11,fL,fN,fS,fA2,fn,fs,fl2,fg,fe2];simp)]
 exact od):P:=e
theorem tI(e:P:=by
 try simp only[go_sem,seval]
 refine Zp (mu:=[]) (dr:=[]) [5,7,10,11,12,13,14,15,16,17,18,19,20] (fun x:Nat×AV×Store=>[(10,vi x.1),(5,x.2.1)]) (fun x=>x.2.2)
  (fun x=>x.1<=l.length/\LV σ x.2.2 x.2.1 1 (ZX ((l.take x.1).map nm))/\Has σ x.2.2) (fun x=>l.length-x.1) (0,.list .full 0 [],σ) xy ⟨by simp,LV.nil _ _ _,.refl _⟩ ⟨.refl _,.refl _,trivial⟩ (.refl _) ?_
 rintro⟨i,v,S⟩ ⟨hi,iL,iH⟩
 dsimp only at hi iL iH
 by_cases hi2:(i:Int)<(l.length:Int)
 ·have x1:=iS hi2
  have x0:(0<=(i:Int))=True:=iS xh
  obtain⟨a,ha⟩:∃ a,l[i]?=some a:=⟨l[i]' xh,iO xh⟩
  have g0:(cZ l)[i]?=some a.emb:=by rw[cZ,jp,ha];rfl
  have w3:IntKind.i64.wrap ((i:Int)+1)=((i+1:Nat):Int):=Zk xh xh
  have hc:=hg a (iG ha)
  have e1:ZX ((l.take (i+1)).map nm)=ZX ((l.take i).map nm)++[[vs (nm a)]]:=by
   rw[jh,ha,jj];simp[ZX]
  generalize nm a=sn at hc e1
  obtain⟨sa,⟨xa,xl⟩⟩:=a
  simp only[eb] at g0 hc
  try simp only[go_sem,seval,dw,x0,x1,g0,iT,iF,jq,jr,jt,iL.one,iL.cells]
  exact oq
 ·exact rh):P:=e
theorem tJ(e:P:=by
 try simp only[go_sem,seval]
 refine Zp (mu:=[]) (dr:=[]) [4,5,8,9,10,11,12,13,14,15,16,17,18] (fun i:Nat=>[(8,vi i)]) (fun i=>St i) (fun i=>i<=es.length/\∀ j,j<i->b j=false) (fun i=>es.length-i) 0 xy ⟨by omega,fun j hj=>by omega⟩ ⟨.refl _,trivial⟩ (.refl _) ?_
 rintro i ⟨hi,hb⟩
 try simp only[go_sem,seval]
 refine⟨fun h1=>⟨?_,by omega,h1,fun e he=>?_⟩,fun h1=>?_⟩
 ·exact pj
 ·rw[iF] at he
  have he2:=hlen i e he
  have hta:List.take 4 e=e:=iW xh
  try simp only[go_sem,seval,he2,hta]
  exact oa
 ·exact ph):P:=e
theorem tM(e:P:=by
 try simp only[go_sem,seval]
 refine Zp (mu:=[]) (dr:=[]) [4,5,8,9,10,11,12,13,14,15,16,17,18] (fun i:Nat=>[(8,vi i)]) (fun i=>St i) (fun i=>i<=es.length/\∀ j,j<i->b j=false) (fun i=>es.length-i) 0 xy ⟨by omega,fun j hj=>by omega⟩ ⟨.refl _,trivial⟩ (.refl _) ?_
 rintro i ⟨hi,hb⟩
 try simp only[go_sem,seval,io]
 refine⟨fun h1=>⟨?_,by omega,h1,fun e he=>?_⟩,fun h1=>?_⟩
 ·exact pj
 ·rw[iF] at he
  rw[jp,kQ] at he
  obtain⟨e,he,rfl⟩:=he
  try simp only[go_sem,seval]
  exact oa
 ·exact ph):P:=e
theorem tN(e:P:=by
 refine h1.head ?_
 cases q1 with
 | false=>try simp only[go_sem,seval];exact Zs xf
 | true =>
   try simp only[go_sem,seval,jq,jr,jt]
   refine h2.use ?_
   exact oP):P:=e
theorem tO(e:P:=by
 refine hac.use ?_
 cases qn with
 | false =>
   exact oO
 | true =>
 try simp only[go_sem,seval,g3,g4]
 refine htc.only' ?_
 cases qt with
 | false =>
   exact oO
 | true =>
 try simp only[go_sem,seval]
 try simp only[go_sem,seval,g4]
 refine hvc.use ?_
 cases qv with
 | false =>
   exact oO
 | true =>
 try simp only[go_sem,seval,g3,g4,g5]
 have hw:=hwi true
 exact px):P:=e
theorem tP(e:P:=by
 refine h1.head ?_
 cases q1 with
 | false=>try simp only[go_sem,seval];exact Zs xf
 | true =>
   try simp only[go_sem,seval,jq,jr,jt]
   refine h3.head ?_
   by_cases hz:nl.length=0
   ·have z:((nl.length:Int)=0)=True:=iS xh
    rw[jy hz]
    try simp only[go_sem,seval,ZZ,z,iT,jq,jr,jt]
    refine h2.use ?_
    exact oP
   ·exact sC):P:=e
theorem tQ(e:P:=by
 try simp only[go_sem,seval,q4,g4,jX]
 show YY _ _ _ _ [] _
 refine YT (fun S'=>S'.get b4=some (.cells [vb _])/\Has S S') (fun S' D x h hf hg=>⟨by rw[Za (fun e=>by rw[<- e,h.1] at hg;cases hg)];exact h.1,h.2.set hf _⟩) (fun S' h=>?_) _ _ trivial ⟨(Zd g4),(H6.set f4 _)⟩
 exact oX):P:=e
theorem tR(e:P:=by
 try simp only[go_sem,seval]
 have hw64:IntKind.i64.wrap ((i:Int)+1)=((i+1:Nat):Int):=Zk xh xh
 rw[hw64]
 refine .mk (i+1,q) ⟨by omega,?_⟩ xX ⟨.refl _,trivial⟩ ?_ (.refl _)
 ·rw[jh,ha]
  simp only[jj]
  rw[hsn,P4 _ _ _ _ _ hst,hw]
 ·exact pq):P:=e
theorem tS(e:P:=by
 refine hq.use ?_
 by_cases t0:ts={ data:=#[] }
 ·have z1:=iS t0
  by_cases t1:tl.length=0
  ·have z2:((tl.length:Int) > 0)=False:=iU xh
   rw[jy t0,jy t1]
   try simp only[go_sem,seval,cG,z1,z2,iT,iV]
   refine hall.only' ?_
   exact oP
  ·exact sf
 ·exact tw):P:=e
theorem tT(e:P:=by
 try simp only[go_sem,seval]
 exact oW):P:=e
theorem tU(e:P:=by
 refine hac.use ?_
 cases qn with
 | false =>
   exact oO
 | true =>
 try simp only[go_sem,seval,g3,g4]
 refine htc.only' ?_
 cases qt with
 | false =>
   exact oO
 | true =>
 try simp only[go_sem,seval]
 try simp only[go_sem,seval,g3,g4,g5]
 have hw:=hwi false
 exact px):P:=e
theorem tV(e:P:=by
 try simp only[go_sem,seval]
 refine(Ub s).use ?_
 try simp only[go_sem,seval]
 cases ZC 1 s with
 | true=>try simp only[go_sem,seval];exact Zs xf
 | false =>
   try simp only[go_sem,seval]
   refine(KU s).use ?_
   exact oP):P:=e
theorem tW(e:P:=by
 refine(hany _).only' ?_
 cases qa with
 | true =>
   have hf:Wh ⟨an,at_,ak,am⟩=false:=hpo2
   try simp only[go_sem,seval,q4,n84,n48,c2,jX]
   exact ox
 | false =>
   exact pR):P:=e
theorem tX(e:P:=by
 obtain⟨xk,xn,xs,xl⟩:=x
 simp only[cO] at hc g
 try simp only[go_sem,seval,cF,g,x0,x1,iF,jq,jr,jt]
 first|refine hc.use ?_|refine hc.head ?_
 exact pi):P:=e
theorem tY(e:P:=by
 rw[ig hlt2] at hw
 obtain⟨hw1,m,hw2⟩:=hw
 rw[hw1,hw2,Zo nbt,Zx]
 try simp only[go_sem,seval]
 refine .mk ((hTs _).skip _) ?_
 exact pK):P:=e
theorem ub(e:P:=by
 rw[ig hlt2] at hw
 obtain⟨hw1,m,hw2⟩:=hw
 rw[hw1,hw2,Zo nbt,Zx]
 try simp only[go_sem,seval]
 refine .mk ((hUs _).skip _) ?_
 exact pK):P:=e
theorem uc(e:P:=by
 rw[ig hlt] at hw
 obtain⟨hw1,m,hw2⟩:=hw
 rw[hw1,hw2]
 try simp only[go_sem,seval,cF]
 refine .mk (.refl _) ?_
 exact pK):P:=e
theorem ud(e:P:=by
 try simp only[Bool.and_false,jS,jz]
 exact oS):P:=e
theorem ue(e:P:=by
 have y3:((tl.length:Int) > 0)=True:=iS xh
 try simp only[go_sem,seval,g4,cG,y1,y10,y11,y2,y3,iT,iV]
 exact pf):P:=e
theorem uf(e:P:=by
 refine .mk (i+1) xh xh ⟨.refl _,?_,trivial⟩ ?_ (.refl _)
 ·rw[hsn];exact .refl _
 ·exact pq):P:=e
theorem ug(e:P:=by
 try simp only[go_sem,seval,g,w1]
 refine hc.use ?_
 exact oG):P:=e
theorem uh(e:P:=by
 refine h1.use ?_
 exact pz):P:=e
theorem ui(e:P:=by
 try simp only[go_sem,seval,g]
 refine hc.use ?_
 exact oG):P:=e
theorem uj(e:P:=by
 rw[ht] at hih
 try simp only[go_sem,seval,z0,k3,k4,k5,n3,n4,n5,iC n3,iC n4,iC n5,z7,z8,iT,iV]
 exact oy):P:=e
theorem un(e:P:=by
 obtain⟨n2,rfl⟩:∃ n2,n2=n1:=⟨_,rfl⟩
 exact nQ):P:=e
theorem uo(e:P:=by
 try simp only[go_sem,seval]
 refine h.use ?_
 exact oG):P:=e
theorem uq(e:P:=by
 rintro fr S hk hG ⟨h0,-⟩
 exact qb):P:=e
theorem ur(e:P:=by
 rintro fr U hk hG ⟨h0,-⟩
 exact qb):P:=e
theorem ut(e:P:=by
 have z:=iU hd
 rw[jY hd,ja]
 try simp only[go_sem,seval,z,iV]
 refine hc.use ?_
 exact pz):P:=e
theorem uu(e:P:=by
 try simp only[go_sem,seval,m23,m34,m24,m45,m35,m25,e23,e34,e24,e45,e35,e25]
 exact pX):P:=e
theorem uv(e:P:=by
 try simp only[go_sem,seval,y2,y5,iT,iV]
 refine(ha b3 _ _ (Ze _ _ _)).only' ?_
 exact tT):P:=e
theorem uw(q:Q)(e:PLift Q->P:=by intro hZ;(try simp only[go_sem,seval]);exact hZ.1):P:=e ⟨q⟩
theorem uy(q:Q)(e:PLift Q->P:=by intro hZ;(try simp only[go_sem,Int.reduceEq,Int.reduceLT,Int.reduceLE,↓reduceIte,Nat.reduceEqDiff,Nat.reduceAdd,Nat.reduceSub,Nat.reduceLT,Nat.reduceLeDiff,Nat.reduceMul,reduceCtorEq]);exact hZ.1):P:=e ⟨q⟩
theorem uz{T:Prop}(q:T->P)(e:PLift (T->P)->P:=by intro hZ;(have w3:IntKind.i64.wrap ((i:Int)+1)=((i+1:Nat):Int):=Zk xh xh);exact hZ.1 w3):P:=e ⟨q⟩
theorem uA(q:Q)(e:PLift Q->P:=by intro hZ;(refine .seq (.of (Zn (mu:=[]) (dr:=[]) xy _ xy _ _ _ ?_)));exact hZ.1):P:=e ⟨q⟩
theorem uB{T:Prop}(q:T->P)(e:PLift (T->P)->P:=by intro hZ;(have x0:(0<=(i:Int))=True:=iS xh);exact hZ.1 x0):P:=e ⟨q⟩
theorem uC(q:Q)(e:PLift Q->P:=by intro hZ;(refine .of (Zn (mu:=[]) (dr:=[]) xy _ xy _ _ _ ?_));exact hZ.1):P:=e ⟨q⟩
theorem uD(q:Q)(e:PLift Q->P:=by intro hZ;(try simp only[go_sem,seval,cH,cF,cG,io,k1,k7,k8,k10,k11,fL,fS,fA,fn,fs,fl,fg,fe,iT,iV,jm]);exact hZ.1):P:=e ⟨q⟩
theorem uE{T:Prop}(q:T->P)(e:PLift (T->P)->P:=by intro hZ;(have hw:IntKind.i64.wrap ((i:Int)+1)=((i+1:Nat):Int):=Zk xh xh);exact hZ.1 hw):P:=e ⟨q⟩
theorem uG{A:Sort _}{T:A->Prop}(q:∀a,T a->P)(e:PLift (∀a,T a->P)->P:=by intro hZ;(obtain⟨a,ha⟩:∃ a,l[i]?=some a:=⟨l[i]' xh,iO xh⟩);exact hZ.1 a ha):P:=e ⟨q⟩
theorem uI{T:Prop}(q:T->P)(e:PLift (T->P)->P:=by intro hZ;(have hw:∀ j:Nat,j<=137438953472->IntKind.i64.wrap ((j:Int)+1)=((j+1:Nat):Int):=fun j hj=>Zk xh xh);exact hZ.1 hw):P:=e ⟨q⟩
theorem uJ(q:Q)(e:PLift Q->P:=by intro hZ;(refine Zn (mu:=[]) (dr:=[]) xy _ xy _ _ _ ?_);exact hZ.1):P:=e ⟨q⟩
theorem uN(q:Q)(e:PLift Q->P:=by intro hZ;(refine .seq (Zn (mu:=[]) (dr:=[]) xy _ xy _ _ _ ?_));exact hZ.1):P:=e ⟨q⟩
theorem uO(q:Q)(e:PLift Q->P:=by intro hZ;(try simp only[go_sem,Int.reduceEq,Int.reduceLT,Int.reduceLE,↓reduceIte,Nat.reduceEqDiff,Nat.reduceAdd,Nat.reduceSub,Nat.reduceLT,Nat.reduceLeDiff,Nat.reduceMul,reduceCtorEq,hb6]);exact hZ.1):P:=e ⟨q⟩
theorem uP(q:Q)(e:PLift Q->P:=by intro hZ;(refine Zp (mu:=[]) (dr:=[]) [4,5,8,9,10,11,12,13,14,15,16,17,18] (fun i:Nat=>[(8,vi i)]) (fun i=>σ) (fun i=>i<=l.length/\∀ j:Nat,j<i->l[j]?≠some x) (fun i=>l.length-i) 0 xy ⟨by omega,fun j hj=>by omega⟩ ⟨.refl _,trivial⟩ (.refl _) ?_);exact hZ.1):P:=e ⟨q⟩
theorem uR(q:Q)(e:PLift Q->P:=by intro hZ;(rw[show IntKind.i64.wrap ((i:Int)+1)=((i+1:Nat):Int) from Zk xh xh]);exact hZ.1):P:=e ⟨q⟩
theorem uS{T:Prop}(q:T->P)(e:PLift (T->P)->P:=by intro hZ;(have u5:U.get b5=some (.cells [.list .full 1 (Zu path),.list .full 2 (cI vars),.list .full 9 (dD q ante),vi hk,vs hs',.list .none 4 (cJ ha),vs hts,.list .none 2 (cI htl),.list .none 6 (cN hl),.list .none 1 (Zu bound),.val (.map q)]):=by rw[hU,Zg hb8 (by rw[g5];rfl)];exact g5);exact hZ.1 u5):P:=e ⟨q⟩
theorem uU(q:Q)(e:PLift Q->P:=by intro hZ;(refine Zp (mu:=[]) (dr:=[]) [4,5,8,9,10,11,12,13,14,15,16,17,18] (fun i:Nat=>[(8,vi i)]) (fun i=>St i) (fun i=>i<=es.length/\∀ j,j<i->b j=false) (fun i=>es.length-i) 0 xy ⟨by omega,fun j hj=>by omega⟩ ⟨.refl _,trivial⟩ (.refl _) ?_);exact hZ.1):P:=e ⟨q⟩
theorem uV{T:Prop}(q:T->P)(e:PLift (T->P)->P:=by intro hZ;(have hw:IntKind.i64.wrap ((j:Int)+1)=((j+1:Nat):Int):=Zk xh xh);exact hZ.1 hw):P:=e ⟨q⟩
theorem uW(q:Q)(e:PLift Q->P:=by intro hZ;(try simp only[go_sem,seval,cL,cG,cF,cH,io,f4,f5,hw1,hw2]);exact hZ.1):P:=e ⟨q⟩
theorem uX(q:Q)(e:PLift Q->P:=by intro hZ;(try simp only[go_sem,seval,cH,cF,cG,io,fL,fS,fA,fn,fs,fl,fg,fe,iT,iV,jm]);exact hZ.1):P:=e ⟨q⟩
theorem uY{T:Prop}(q:T->P)(e:PLift (T->P)->P:=by intro hZ;(have u8:U.get b8=some (.cells [v,.list .full 2 (cI vars),.list .full 9 (dD q ante),vi hk,vs hs',.list .none 4 (cJ ha),vs hts,.list .none 2 (cI htl),.list .none 6 (cN hl),.list .none 1 (Zu bound),.val (.map q)]):=by rw[hU];exact Ze _ _ _);exact hZ.1 u8):P:=e ⟨q⟩
theorem uZ{A:Sort _}{T:A->Prop}(q:∀a,T a->P)(e:PLift (∀a,T a->P)->P:=by intro hZ;(obtain⟨U,hU⟩:∃ U:Store,U=(b8,AObj.cells [v,.list .full 2 (cI vars),.list .full 9 (dD q ante),vi hk,vs hs',.list .none 4 (cJ ha),vs hts,.list .none 2 (cI htl),.list .none 6 (cN hl),.list .none 1 (Zu bound),.val (.map q)])::S1:=⟨_,rfl⟩);exact hZ.1 U hU):P:=e ⟨q⟩
theorem ve{T:Prop}(q:T->P)(e:PLift (T->P)->P:=by intro hZ;(have hw:=XC (P:=P) hg hc.fr.size (fun j want d _ hd=>⟨hdst j d hd,hc.fr.slot d (hdst j d hd)⟩));exact hZ.1 hw):P:=e ⟨q⟩
theorem vh(q:Q)(e:PLift Q->P:=by intro hZ;(try simp only[go_sem,seval,hv'.one,hv'.cells]);exact hZ.1):P:=e ⟨q⟩
theorem vj(q:Q)(e:PLift Q->P:=by intro hZ;(try simp only[go_sem,Int.reduceEq,Int.reduceLT,Int.reduceLE,↓reduceIte,Nat.reduceEqDiff,Nat.reduceAdd,Nat.reduceSub,Nat.reduceLT,Nat.reduceLeDiff,Nat.reduceMul,reduceCtorEq,Zt]);exact hZ.1):P:=e ⟨q⟩
theorem vk(q:Q)(e:PLift Q->P:=by intro hZ;(try simp only[go_sem,seval,nB5,p0,lp,q0,lq,nA9,nA8,nA7,nA5,n75,n85,n87,n95,n97,n98,g0,g1,g2,lG,l0,l1,l2,lQ1,lQ2,lK,lL,c1,c2,c3,k1,k2,iT,iV,jf,jg,z2,jq,jr,jt]);exact hZ.1):P:=e ⟨q⟩
theorem vm(q:Q)(e:PLift Q->P:=by intro hZ;(refine .seq (.of (Zn (mu:=[43]) (dr:=[]) xy _ xy _ _ _ ?_)));exact hZ.1):P:=e ⟨q⟩
theorem vn{T:Prop}(q:T->P)(e:PLift (T->P)->P:=by intro hZ;(have t8:T.get b8=some (.cells [vi 0,.val (.string { data:=#[] }),.list .full 0 [],.val (.string { data:=#[] }),.list .full 0 [],.list .full 0 []]):=by rw[hT];exact Ze _ _ _);exact hZ.1 t8):P:=e ⟨q⟩
theorem vu(q:Q)(e:PLift Q->P:=by intro hZ;(refine .seq (.of (Zn (mu:=[2]) (dr:=[]) xy _ xy _ _ _ ?_)));exact hZ.1):P:=e ⟨q⟩
theorem vw{T:Prop}(q:T->P)(e:PLift (T->P)->P:=by intro hZ;(have hlen:=(((hok _ ir).agg (c:=.list .none 4 (cJ l)) xw).len));exact hZ.1 hlen):P:=e ⟨q⟩
theorem vy{T:Prop}(q:T->P)(e:PLift (T->P)->P:=by intro hZ;(have x0:(0<=(j:Int))=True:=iS xh);exact hZ.1 x0):P:=e ⟨q⟩
theorem vz{T:Prop}(q:T->P)(e:PLift (T->P)->P:=by intro hZ;(have hw64:IntKind.i64.wrap ((i:Int)+1)=((i+1:Nat):Int):=Zk xh xh);exact hZ.1 hw64):P:=e ⟨q⟩
theorem vA(q:Q)(e:PLift Q->P:=by intro hZ;(try simp only[go_sem,seval,gn,gd,ga,gw,h1,iC h1,n1,n2,n3,n4,hwc]);exact hZ.1):P:=e ⟨q⟩
theorem vB{A:Sort _}{T:A->Prop}(q:∀a,T a->P)(e:PLift (∀a,T a->P)->P:=by intro hZ;(obtain⟨T,hT⟩:∃ T:Store,T=(b8,AObj.cells [vi 0,.val (.string { data:=#[] }),.list .full 0 [],.val (.string { data:=#[] }),.list .full 0 [],.list .full 0 []])::S:=⟨_,rfl⟩);exact hZ.1 T hT):P:=e ⟨q⟩
theorem vC{T:Prop}(q:T->P)(e:PLift (T->P)->P:=by intro hZ;(have hdst:∀ (j d:Nat),(ops[j]?).bind (·.dst)=some d->d<n:=YR (List.all_eq_true.2 hB));exact hZ.1 hdst):P:=e ⟨q⟩
theorem vD(q:Q)(e:PLift Q->P:=by intro hZ;(refine .seq (.seq (.of (Zn (mu:=[]) (dr:=[]) xy _ xy _ _ _ ?_))));exact hZ.1):P:=e ⟨q⟩
theorem vE{T:Prop}(q:T->P)(e:PLift (T->P)->P:=by intro hZ;(have he:p0.emb=[.list .none 1 (ZX ts),.list .none 3 (cZ cs),.list .none 4 (df ds),.list .none 8 (dx rs),.list .none 8 (dy qs)]:=by rw[hp0];rfl);exact hZ.1 he):P:=e ⟨q⟩
theorem vF(q:Q)(e:PLift Q->P:=by intro hZ;(try simp only[go_sem,seval,w3]);exact hZ.1):P:=e ⟨q⟩
theorem vG(q:Q)(e:PLift Q->P:=by intro hZ;(try simp only[go_sem,seval,cF,x0,x1,gt,iT,iF,jq,jr,jt]);exact hZ.1):P:=e ⟨q⟩
theorem vH{T:Prop}(q:T->P)(e:PLift (T->P)->P:=by intro hZ;(have u8:U.get b8=some (.cells [vi 0,vi 0,.val (.string { data:=#[] }),.list .full 0 []]):=by rw[hU,Zg hb11 (by rw[t8];rfl)];exact t8);exact hZ.1 u8):P:=e ⟨q⟩
theorem vI(q:Q)(e:PLift Q->P:=by intro hZ;(try simp only[go_sem,seval,y,iT]);exact hZ.1):P:=e ⟨q⟩
theorem vJ(q:Q)(e:PLift Q->P:=by intro hZ;(rw[ig (by rw[hw];exact Bool.false_ne_true)]);exact hZ.1):P:=e ⟨q⟩
theorem vK(q:Q)(e:PLift Q->P:=by intro hZ;(refine((iha (lv+1) c1 d1 (S2 σ bn bd (c1,d1)) xh xh hb.1 hb.2.1 hb.2.2.1 hb.2.2.2 (RW gn h1 _) (RV gd h1 _) ((SH n1 n2 _).trans ga) ((SH n3 n4 _).trans gw)).sub (.cons _ _)).mono ?_);exact hZ.1):P:=e ⟨q⟩
theorem vL{T:Prop}(q:T->P)(e:PLift (T->P)->P:=by intro hZ;(have hlen:=(((hok _ ir).agg (c:=.list .none 2 (cI l)) (by simp[cQ])).len));exact hZ.1 hlen):P:=e ⟨q⟩
theorem vM(q:Q)(e:PLift Q->P:=by intro hZ;(try simp only[go_sem,Int.reduceEq,Int.reduceLT,Int.reduceLE,↓reduceIte,Nat.reduceEqDiff,Nat.reduceAdd,Nat.reduceSub,Nat.reduceLT,Nat.reduceLeDiff,Nat.reduceMul,reduceCtorEq,tkE,T2,h2t]);exact hZ.1):P:=e ⟨q⟩
theorem vN(q:Q)(e:PLift Q->P:=by intro hZ;(try simp only[go_sem,Int.reduceEq,Int.reduceLT,Int.reduceLE,↓reduceIte,Nat.reduceEqDiff,Nat.reduceAdd,Nat.reduceSub,Nat.reduceLT,Nat.reduceLeDiff,Nat.reduceMul,reduceCtorEq,WO,n11,iT]);exact hZ.1):P:=e ⟨q⟩
theorem vO(q:Q)(e:PLift Q->P:=by intro hZ;(try simp only[go_sem,Int.reduceEq,Int.reduceLT,Int.reduceLE,↓reduceIte,Nat.reduceEqDiff,Nat.reduceAdd,Nat.reduceSub,Nat.reduceLT,Nat.reduceLeDiff,Nat.reduceMul,reduceCtorEq,hgb]);exact hZ.1):P:=e ⟨q⟩
theorem vP(q:Q)(e:PLift Q->P:=by intro hZ;(refine WI (fun m a' w'=>∃ x,I x/\μ x=m/\YL n ds (S x) (Fr.turn ch (l x) fr) a' w'/\Ev σ w (S x) w') (μ x) ⟨x,h1,rfl,hc.wk (.of_turn (.refl _ _) _ h2) h3,h3.ev w⟩ ?_);exact hZ.1):P:=e ⟨q⟩
theorem vQ(q:Q)(e:PLift Q->P:=by intro hZ;(refine .seq (.region (mu:=[]) (pre:=[_]) 3 xy xy xj ?_));exact hZ.1):P:=e ⟨q⟩
theorem vR{T:Prop}(q:T->P)(e:PLift (T->P)->P:=by intro hZ;(have hem2:cY [Zi.mk xk xn xa (.mk xts xtl) xl xi xg xe]=[[vi xk,vs xn,.list .none 4 (cJ xa),vs xts,.list .none 2 (cI xtl),.list .none 9 (cY xl),vi xi,vi xg,.list .none 1 (Zu xe)]]:=by simp[dP,cV]);exact hZ.1 hem2):P:=e ⟨q⟩
theorem vS{T:Prop}(q:T->P)(e:PLift (T->P)->P:=by intro hZ;(have w3:IntKind.i64.wrap ((j:Int)+1)=((j+1:Nat):Int):=Zk xh xh);exact hZ.1 w3):P:=e ⟨q⟩
theorem vT{T:Prop}(q:T->P)(e:PLift (T->P)->P:=by intro hZ;(have hrun:=Y6 (ty:=ty) (P:=P) (w:=w) (base:=a) (cap:=cap) he hsz hxT (hlen w) (hnew w rfl) xz);exact hZ.1 hrun):P:=e ⟨q⟩
theorem vU{T:Prop}(q:T->P)(e:PLift (T->P)->P:=by intro hZ;(have hlen:=(((hok (.agg (Tm.mk k n s l).emb) xf).agg (c:=.list .none 4 (cJ l)) xw).len));exact hZ.1 hlen):P:=e ⟨q⟩
theorem vV(q:Q)(e:PLift Q->P:=by intro hZ;(try simp only[go_sem,seval,n76,dU,eq_self,iT,jA]);exact hZ.1):P:=e ⟨q⟩
theorem vW{T:Prop}(q:T->P)(e:PLift (T->P)->P:=by intro hZ;(have u11:U.get b11=some (.cells [vi ka,vi na,vs sa,.list .none 4 (cJ la)]):=by rw[hU];exact Ze _ _ _);exact hZ.1 u11):P:=e ⟨q⟩
theorem vX{T:Prop}(q:T->P)(e:PLift (T->P)->P:=by intro hZ;(have e0:(cN [.mk gk gs ga (.mk gts gtl) gl,.mk ik is ia (.mk its itl) il])[0]?=some [vi gk,vs gs,.list .none 4 (cJ ga),vs gts,.list .none 2 (cI gtl),.list .none 6 (cN gl)]:=rfl);exact hZ.1 e0):P:=e ⟨q⟩
theorem vY{T:Prop}(q:T->P)(e:PLift (T->P)->P:=by intro hZ;(have e1:(cN [.mk gk gs ga (.mk gts gtl) gl,.mk ik is ia (.mk its itl) il])[1]?=some [vi ik,vs is,.list .none 4 (cJ ia),vs its,.list .none 2 (cI itl),.list .none 6 (cN il)]:=rfl);exact hZ.1 e1):P:=e ⟨q⟩
theorem vZ{T:Prop}(q:T->P)(e:PLift (T->P)->P:=by intro hZ;(have tk:∀ j x,S.get j=some x->T.get j=some x:=fun j x hj=>by rw[hT,Zc (Zv hj f8).symm];exact hj);exact hZ.1 tk):P:=e ⟨q⟩
theorem wd{T:Prop}(q:T->P)(e:PLift (T->P)->P:=by intro hZ;(have w1:IntKind.i64.wrap (((m+1:Nat):Int)-1)=(m:Int):=(Zk xh xh).trans xh);exact hZ.1 w1):P:=e ⟨q⟩
theorem we{T:Prop}(q:T->P)(e:PLift (T->P)->P:=by intro hZ;(have x1:((j:Int)<(l.length:Int))=True:=iS xh);exact hZ.1 x1):P:=e ⟨q⟩
theorem wf(q:Q)(e:PLift Q->P:=by intro hZ;(refine Zn (mu:=[82,95]) (dr:=[(7,7,8),(14,7,8),(20,1000,0),(21,1000,0),(23,9,0),(26,1000,0),(27,6,0)]) xy _ xy _ _ _ ?_);exact hZ.1):P:=e ⟨q⟩
theorem wh{T:Prop}(q:T->P)(e:PLift (T->P)->P:=by intro hZ;(have hs:i<ls.size:=by rw[hl.size];exact h1);exact hZ.1 hs):P:=e ⟨q⟩
theorem wi{T:Prop}(q:T->P)(e:PLift (T->P)->P:=by intro hZ;(have hnd2:cP (cK (l.take (j+1)))=cP (cK (l.take j))+a.shape.nds:=by rw[hta,cS,jv,ZL];simp[cP,cS]);exact hZ.1 hnd2):P:=e ⟨q⟩
theorem wj(q:Q)(e:PLift Q->P:=by intro hZ;(try simp only[go_sem,seval,nA9,nA8,nA7,nA5,n75,n85,n87,n95,n97,n98,g0,g1,g2,lG,l0,l1,l2,lQ1,lQ2,lK,lL,c1,c2,c3,k1,k2,iT,iV,jf,jg,z2,jq,jr,jt]);exact hZ.1):P:=e ⟨q⟩
theorem wn{T:Prop}(q:T->P)(e:PLift (T->P)->P:=by intro hZ;(have hmk:MK σ bm gv st.m S'':={ hs.mkr with gm:=m1,gw:=by obtain⟨es',hw',he⟩:=hs.mkr.gw;exact⟨es',hw'.cell fun k c hk hc=>(hgv k hk).1.trans hc,he⟩,has:=hH2 });exact hZ.1 hmk):P:=e ⟨q⟩
theorem wq(q:Q)(e:PLift Q->P:=by intro hZ;(try simp only[go_sem,seval,cG]);exact hZ.1):P:=e ⟨q⟩
theorem wu(q:Q)(e:PLift Q->P:=by intro hZ;(try simp only[go_sem,seval,hw]);exact hZ.1):P:=e ⟨q⟩
theorem wv(q:Q)(e:PLift Q->P:=by intro hZ;(try simp only[go_sem,seval,Z9]);exact hZ.1):P:=e ⟨q⟩
theorem ww{T:Prop}(q:T->P)(e:PLift (T->P)->P:=by intro hZ;(have hk9:Yb own σ ((b9,.cells [vi ka,vi na,vs sa,.list .none 4 (cJ la)])::S):=fun k x h1 h2 h3=>by rw[Zg hb9 yu];exact hkS k x h1 h2 h3);exact hZ.1 hk9):P:=e ⟨q⟩
theorem wx{T:Prop}(q:T->P)(e:PLift (T->P)->P:=by intro hZ;(have w2:IntKind.i64.wrap (c+prt a.shape (m-c))=c+prt a.shape (m-c):=Zk xh xh);exact hZ.1 w2):P:=e ⟨q⟩
theorem wy(q:Q)(e:PLift Q->P:=by intro hZ;(refine⟨_,_,rfl,?_⟩);exact hZ.1):P:=e ⟨q⟩
theorem wz(q:Q)(e:PLift Q->P:=by intro hZ;(try simp only[go_sem,seval,y,iV]);exact hZ.1):P:=e ⟨q⟩
theorem wC{T:Prop}(q:T->P)(e:PLift (T->P)->P:=by intro hZ;(have f9S:Zm S b9:=k2.fresh (fun b hb=>by obtain⟨c,hc⟩:=h2.mkr.own b hb;rw[hc];rfl) f9);exact hZ.1 f9S):P:=e ⟨q⟩
theorem wD(q:Q)(e:PLift Q->P:=by intro hZ;(try simp only[go_sem,seval,n75,n85,n87,n95,n97,n98,g0,g1,g2,lG,l0,l1,l2,lQ1,lQ2,lK,lL,c1,c2,c3,k1,k2,iT,iV,jf,jg,z2,jq,jr,jt]);exact hZ.1):P:=e ⟨q⟩
theorem wE{A:Sort _}{T:A->Prop}(q:∀a,T a->P)(e:PLift (∀a,T a->P)->P:=by intro hZ;(obtain⟨U,hU⟩:∃ U:Store,U=(b11,AObj.cells [vi ka,vi na,vs sa,.list .none 4 (cJ la)])::T:=⟨_,rfl⟩);exact hZ.1 U hU):P:=e ⟨q⟩
theorem wG(q:Q)(e:PLift Q->P:=by intro hZ;(try simp only[go_sem,seval,cF,hl8]);exact hZ.1):P:=e ⟨q⟩
theorem wI{T:Prop}(q:T->P)(e:PLift (T->P)->P:=by intro hZ;(have hw:IntKind.i64.wrap ((0:Int)+1)=1:=Zk xh xh);exact hZ.1 hw):P:=e ⟨q⟩
theorem wJ(q:Q)(e:PLift Q->P:=by intro hZ;(try simp only[go_sem,seval,iT]);exact hZ.1):P:=e ⟨q⟩
theorem wM(q:Q)(e:PLift Q->P:=by intro hZ;(try simp only[go_sem,seval,h0]);exact hZ.1):P:=e ⟨q⟩
theorem wN(q:Q)(e:PLift Q->P:=by intro hZ;(try simp only[go_sem,seval,dh]);exact hZ.1):P:=e ⟨q⟩
theorem wR{T:Prop}(q:T->P)(e:PLift (T->P)->P:=by intro hZ;(have gr:Store.get ((bk,ckO f i c.locals base s)::(r,.map (ZS keI (Yj A)) A.length)::σ) r=some (.map (ZS keI (Yj A)) A.length):=by rw[Zc hkr,Ze]);exact hZ.1 gr):P:=e ⟨q⟩
theorem wS(q:Q)(e:PLift Q->P:=by intro hZ;(refine(iha U uT (hQ.kp uK.drop h.mkr.own) hsa xh).mono ?_);exact hZ.1):P:=e ⟨q⟩
theorem wT{T:Prop}(q:T->P)(e:PLift (T->P)->P:=by intro hZ;(have hwl:IntKind.i64.wrap (lv+1)=lv+1:=Zk xh xh);exact hZ.1 hwl):P:=e ⟨q⟩
theorem wU{A:Sort _}{T:A->Prop}(q:∀a,T a->P)(e:PLift (∀a,T a->P)->P:=by intro hZ;(obtain⟨a,ha⟩:∃ a,rs[i]?=some a:=⟨rs[i]' xh,iO xh⟩);exact hZ.1 a ha):P:=e ⟨q⟩
theorem wV{T:Prop}(q:T->P)(e:PLift (T->P)->P:=by intro hZ;(have q4:fr 4=.val (.pointer (some ⟨b4,0,none⟩)):=hk 4 rfl);exact hZ.1 q4):P:=e ⟨q⟩
theorem wW{T:Prop}(q:T->P)(e:PLift (T->P)->P:=by intro hZ;(have hargs:=Vs.map (L:=live σ) (w:=w) (ev:=ev) (ρ:=a.eval) args.toList (fun x hx=>hop x (by simp[Op.operands,Call.operands];simpa using hx)));exact hZ.1 hargs):P:=e ⟨q⟩
theorem wX(q:Q)(e:PLift Q->P:=by intro hZ;(try simp only[go_sem,seval,cF,x0,x1,t9,t8,iV,tL.one,tL.cells]);exact hZ.1):P:=e ⟨q⟩
theorem wY(q:Q)(e:PLift Q->P:=by intro hZ;(try simp only[go_sem,seval,cF,x1,iV]);exact hZ.1):P:=e ⟨q⟩
theorem wZ(q:Q)(e:PLift Q->P:=by intro hZ;(simp only[lh,iu,Xe,Xz,Yu,YK]);exact hZ.1):P:=e ⟨q⟩
theorem xb(q:Q)(e:PLift Q->P:=by intro hZ;(try simp only[go_sem,seval,q6,q7',y7,y6,n67]);exact hZ.1):P:=e ⟨q⟩
theorem xc{T:Prop}(q:T->P)(e:PLift (T->P)->P:=by intro hZ;(have kp:∀ (c:Nat) (y:AObj) (z:AObj),S.get c=some y->c≠D.jb->(S.set D.jb z).get c=some y:=fun c y z hy hn=>by rw[Za hn];exact hy);exact hZ.1 kp):P:=e ⟨q⟩
theorem xd{T:Prop}(q:T->P)(e:PLift (T->P)->P:=by intro hZ;(have hw3:IntKind.i64.wrap ((j:Int)+1)=((j+1:Nat):Int):=Zk xh xh);exact hZ.1 hw3):P:=e ⟨q⟩
end Go.Vx
