/- Part Q01 of the proof of treeLooksProved: the walk of the program on abstract values, and the plain law. -/
import Derived.Below
import Derived.Laws.Sem
import Derived.Laws.Entries
import Derived.Calls
import Derived.Laws.Cells
import Derived.Laws.IdiomCopy
import Derived.Laws.World
set_option linter.unusedVariables false
set_option linter.unusedSimpArgs false
namespace Go.Vx
theorem dY{P Q:Prop}(q:Q)(e:Q→P:=by intro hZ;(try simp only [go_sem,seval,Zn,cg,ci,cj,List.length_map,fL,fS,fA,fn,fs,fl,fg,fe,decide_true,decide_false,decide_not]);exact hZ):P:=e q
theorem dZ{P Q:Prop}(q:Q)(e:Q→P:=by intro hZ;(try simp only [go_sem,Int.reduceEq,Int.reduceLT,Int.reduceLE,↓reduceIte,Nat.reduceEqDiff,Nat.reduceAdd,Nat.reduceSub,Nat.reduceLT,Nat.reduceLeDiff,Nat.reduceMul,reduceCtorEq,ZF,Zq]);exact hZ):P:=e q
theorem ea{P Q:Prop}(q:Q)(e:Q→P:=by intro hZ;(try simp only [go_sem,seval,Zn,cg,ci,cj,ck,List.length_map,fL,fS,fA,fn,fs,fl,fg,fe,decide_true,decide_false,decide_not,Za (hfk hb5),Zk (hfk hb5),Zd gk',Zw,gk',fq]);exact hZ):P:=e q
theorem ec{P Q:Prop}(q:Q)(e:Q→P:=by intro hZ;(try simp only [go_sem,Int.reduceEq,Int.reduceLT,Int.reduceLE,↓reduceIte,Nat.reduceEqDiff,Nat.reduceAdd,Nat.reduceSub,Nat.reduceLT,Nat.reduceLeDiff,Nat.reduceMul,reduceCtorEq,ZF,fy]);exact hZ):P:=e q
theorem ed{P:Prop}(e:P:=by exact .mk (.refl _) ((Sub.refl _).skip _) ⟨rfl,sn,(Zs gk).symm⟩):P:=e
theorem ef{P Q:Prop}(q:Q)(e:Q→P:=by intro hZ;(try simp only [go_sem,seval,Zr,Int.toNat_natCast,G6,G3,hO,Int.toNat_zero,Int.toNat_one]);exact hZ):P:=e q
theorem ej{P Q:Prop}(q:Q)(e:Q→P:=by intro hZ;(try simp only [go_sem,seval,Zn,cg,ci,cj,List.length_map,k1,k7,k8,k10,k11,fL,fS,fA,fn,fs,fl,fg,fe,decide_true,decide_false,decide_not]);exact hZ):P:=e q
theorem eo{P Q:Prop}(q:Q)(e:Q→P:=by intro hZ;(try simp only [go_sem,Int.reduceEq,Int.reduceLT,Int.reduceLE,↓reduceIte,Nat.reduceEqDiff,Nat.reduceAdd,Nat.reduceSub,Nat.reduceLT,Nat.reduceLeDiff,Nat.reduceMul,reduceCtorEq,XD]);exact hZ):P:=e q
theorem ep{P Q:Prop}(q:Q)(e:Q→P:=by intro hZ;(try simp only [go_sem,Int.reduceEq,Int.reduceLT,Int.reduceLE,↓reduceIte,Nat.reduceEqDiff,Nat.reduceAdd,Nat.reduceSub,Nat.reduceLT,Nat.reduceLeDiff,Nat.reduceMul,reduceCtorEq,Xs,cE,ci,fz,fn,f8,decide_not,decide_true,decide_false,Fp,Fo,tn0,tn1,true_and,Nat.zero_mul,Nat.mul_one,List.drop_succ_cons,List.drop_zero,List.head?_cons,Za n12]);exact hZ):P:=e q
theorem er{P Q:Prop}(q:Q)(e:Q→P:=by intro hZ;(try simp only [go_sem,Int.reduceEq,Int.reduceLT,Int.reduceLE,↓reduceIte,Nat.reduceEqDiff,Nat.reduceAdd,Nat.reduceSub,Nat.reduceLT,Nat.reduceLeDiff,Nat.reduceMul,reduceCtorEq,We]);exact hZ):P:=e q
theorem eu{P Q:Prop}(q:Q)(e:Q→P:=by intro hZ;(try simp only [go_sem,seval,YB,ck,cj,ci,cg,List.length_map,f4,f5,hw1,hw2]);exact hZ):P:=e q
theorem ew{P Q:Prop}(q:Q)(e:Q→P:=by intro hZ;(try simp only [go_sem,Int.reduceEq,Int.reduceLT,Int.reduceLE,↓reduceIte,Nat.reduceEqDiff,Nat.reduceAdd,Nat.reduceSub,Nat.reduceLT,Nat.reduceLeDiff,Nat.reduceMul,reduceCtorEq,YC]);exact hZ):P:=e q
theorem ez{P Q:Prop}(q:Q)(e:Q→P:=by intro hZ;(try simp only [go_sem,Int.reduceEq,Int.reduceLT,Int.reduceLE,↓reduceIte,Nat.reduceEqDiff,Nat.reduceAdd,Nat.reduceSub,Nat.reduceLT,Nat.reduceLeDiff,Nat.reduceMul,reduceCtorEq,ZF,fy,decide_false,Zq]);exact hZ):P:=e q
theorem eA{P Q:Prop}(q:Q)(e:Q→P:=by intro hZ;(try simp only [go_sem,Int.reduceEq,Int.reduceLT,Int.reduceLE,↓reduceIte,Nat.reduceEqDiff,Nat.reduceAdd,Nat.reduceSub,Nat.reduceLT,Nat.reduceLeDiff,Nat.reduceMul,reduceCtorEq,ZF,Zq,decide_false,Zq]);exact hZ):P:=e q
theorem eB{P Q:Prop}(q:Q)(e:Q→P:=by intro hZ;(try simp only [go_sem,Int.reduceEq,Int.reduceLT,Int.reduceLE,↓reduceIte,Nat.reduceEqDiff,Nat.reduceAdd,Nat.reduceSub,Nat.reduceLT,Nat.reduceLeDiff,Nat.reduceMul,reduceCtorEq,Xu,s2',s8]);exact hZ):P:=e q
theorem eC{P Q:Prop}(q:Q)(e:Q→P:=by intro hZ;(try simp only [go_sem,Int.reduceEq,Int.reduceLT,Int.reduceLE,↓reduceIte,Nat.reduceEqDiff,Nat.reduceAdd,Nat.reduceSub,Nat.reduceLT,Nat.reduceLeDiff,Nat.reduceMul,reduceCtorEq,Xu]);exact hZ):P:=e q
theorem eD{P Q:Prop}(q:Q)(e:Q→P:=by intro hZ;(try simp only [go_sem,Int.reduceEq,Int.reduceLT,Int.reduceLE,↓reduceIte,Nat.reduceEqDiff,Nat.reduceAdd,Nat.reduceSub,Nat.reduceLT,Nat.reduceLeDiff,Nat.reduceMul,reduceCtorEq,VO]);exact hZ):P:=e q
theorem eE{P Q:Prop}(q:Q)(e:Q→P:=by intro hZ;(try simp only [go_sem,Int.reduceEq,Int.reduceLT,Int.reduceLE,↓reduceIte,Nat.reduceEqDiff,Nat.reduceAdd,Nat.reduceSub,Nat.reduceLT,Nat.reduceLeDiff,Nat.reduceMul,reduceCtorEq,LB]);exact hZ):P:=e q
theorem eF{P:Prop}(e:P:=by exact .mk (.refl _) (.refl _) ⟨⟨_,rfl⟩,rfl⟩):P:=e
theorem eG{P Q:Prop}(q:Q)(e:Q→P:=by intro hZ;(try simp only [go_sem,Int.reduceEq,Int.reduceLT,Int.reduceLE,↓reduceIte,Nat.reduceEqDiff,Nat.reduceAdd,Nat.reduceSub,Nat.reduceLT,Nat.reduceLeDiff,Nat.reduceMul,reduceCtorEq,WP,List.length_cons,List.map_cons]);exact hZ):P:=e q
theorem eH{P Q:Prop}(q:Q)(e:Q→P:=by intro hZ;(try simp only [go_sem,seval,Zr,G4]);exact hZ):P:=e q
theorem eI{P:Prop}(e:P:=by exact ZE (.refl _) (((Sub.refl σ).skip _).skip _)):P:=e
theorem eJ{P Q:Prop}(q:Q)(e:Q→P:=by intro hZ;(try simp only [go_sem,Int.reduceEq,Int.reduceLT,Int.reduceLE,↓reduceIte,Nat.reduceEqDiff,Nat.reduceAdd,Nat.reduceSub,Nat.reduceLT,Nat.reduceLeDiff,Nat.reduceMul,reduceCtorEq,Xu,n32]);exact hZ):P:=e q
theorem eK{P Q:Prop}(q:Q)(e:Q→P:=by intro hZ;(try simp only [go_sem,seval,Zr,Int.toNat_natCast,G6,G3,hk,decide_false]);exact hZ):P:=e q
theorem eL{P Q:Prop}(q:Q)(e:Q→P:=by intro hZ;(try simp only [go_sem,seval,Zr,Int.toNat_natCast,G6,G3,hk,decide_true]);exact hZ):P:=e q
theorem eM{P Q:Prop}(q:Q)(e:Q→P:=by intro hZ;(try simp only [go_sem,seval,Zr,Int.toNat_natCast,G6,G3,Int.toNat_zero]);exact hZ):P:=e q
theorem eN{P Q:Prop}(q:Q)(e:Q→P:=by intro hZ;(try simp only [go_sem,Int.reduceEq,Int.reduceLT,Int.reduceLE,↓reduceIte,Nat.reduceEqDiff,Nat.reduceAdd,Nat.reduceSub,Nat.reduceLT,Nat.reduceLeDiff,Nat.reduceMul,reduceCtorEq,XD,Yd,Yt,Yc,ZU,Z4,Yp,h8,h10,g8',g8s]);exact hZ):P:=e q
theorem eO{P Q:Prop}(q:Q)(e:Q→P:=by intro hZ;(try simp only [go_sem,Int.reduceEq,Int.reduceLT,Int.reduceLE,↓reduceIte,Nat.reduceEqDiff,Nat.reduceAdd,Nat.reduceSub,Nat.reduceLT,Nat.reduceLeDiff,Nat.reduceMul,reduceCtorEq,ZF,List.map_cons,List.length_cons]);exact hZ):P:=e q
theorem eP{P Q:Prop}(q:Q)(e:Q→P:=by intro hZ;(try simp only [go_sem,seval,Zn]);exact hZ):P:=e q
theorem eQ{P Q:Prop}(q:Q)(e:Q→P:=by intro hZ;(try simp only [go_sem,seval,Zr,Int.toNat_natCast,G6,G3,h45,Int.toNat_zero,Int.toNat_one]);exact hZ):P:=e q
theorem eR{P Q:Prop}(q:Q)(e:Q→P:=by intro hZ;(try simp only [go_sem,Int.reduceEq,Int.reduceLT,Int.reduceLE,↓reduceIte,Nat.reduceEqDiff,Nat.reduceAdd,Nat.reduceSub,Nat.reduceLT,Nat.reduceLeDiff,Nat.reduceMul,reduceCtorEq,WP,hb6]);exact hZ):P:=e q
theorem eS{P Q:Prop}(q:Q)(e:Q→P:=by intro hZ;(try simp only [go_sem,Int.reduceEq,Int.reduceLT,Int.reduceLE,↓reduceIte,Nat.reduceEqDiff,Nat.reduceAdd,Nat.reduceSub,Nat.reduceLT,Nat.reduceLeDiff,Nat.reduceMul,reduceCtorEq,Wu]);exact hZ):P:=e q
theorem eT{P:Prop}(e:P:=by simp only [Y9,htok]):P:=e
theorem eU{P Q:Prop}(q:Q)(e:Q→P:=by intro hZ;(try simp only [go_sem,Int.reduceEq,Int.reduceLT,Int.reduceLE,↓reduceIte,Nat.reduceEqDiff,Nat.reduceAdd,Nat.reduceSub,Nat.reduceLT,Nat.reduceLeDiff,Nat.reduceMul,reduceCtorEq,YC,decide_true,decide_false]);exact hZ):P:=e q
theorem eV{P Q:Prop}(q:Q)(e:Q→P:=by intro hZ;(try simp only [go_sem,Int.reduceEq,Int.reduceLT,Int.reduceLE,↓reduceIte,Nat.reduceEqDiff,Nat.reduceAdd,Nat.reduceSub,Nat.reduceLT,Nat.reduceLeDiff,Nat.reduceMul,reduceCtorEq,Xu,List.length_map]);exact hZ):P:=e q
theorem eW{P Q:Prop}(q:Q)(e:Q→P:=by intro hZ;(try simp only [go_sem,Int.reduceEq,Int.reduceLT,Int.reduceLE,↓reduceIte,Nat.reduceEqDiff,Nat.reduceAdd,Nat.reduceSub,Nat.reduceLT,Nat.reduceLeDiff,Nat.reduceMul,reduceCtorEq,XD,List.length_map]);exact hZ):P:=e q
theorem eX{P Q:Prop}(q:Q)(e:Q→P:=by intro hZ;(try simp only [go_sem,seval,Yi]);exact hZ):P:=e q
theorem eY{P:Prop}(e:P:=by exact h.elim):P:=e
theorem eZ{P:Prop}(e:P:=by exact .mk (.refl _) (.refl _) (.inr ⟨hn,rfl,rfl⟩)):P:=e
theorem fd{P:Prop}(e:P:=by exact .mk (.refl _) (.refl _) (.inr ⟨hb,rfl,rfl⟩)):P:=e
theorem fh{P Q:Prop}(q:Q)(e:Q→P:=by intro hZ;(try simp only [go_sem,Int.reduceEq,Int.reduceLT,Int.reduceLE,↓reduceIte,Nat.reduceEqDiff,Nat.reduceAdd,Nat.reduceSub,Nat.reduceLT,Nat.reduceLeDiff,Nat.reduceMul,reduceCtorEq,ZF,ZP]);exact hZ):P:=e q
theorem fj{P Q:Prop}(q:Q)(e:Q→P:=by intro hZ;(try simp only [go_sem,Int.reduceEq,Int.reduceLT,Int.reduceLE,↓reduceIte,Nat.reduceEqDiff,Nat.reduceAdd,Nat.reduceSub,Nat.reduceLT,Nat.reduceLeDiff,Nat.reduceMul,reduceCtorEq,BR,g]);exact hZ):P:=e q
theorem fk{P Q:Prop}(q:Q)(e:Q→P:=by intro hZ;(try simp only [go_sem,Int.reduceEq,Int.reduceLT,Int.reduceLE,↓reduceIte,Nat.reduceEqDiff,Nat.reduceAdd,Nat.reduceSub,Nat.reduceLT,Nat.reduceLeDiff,Nat.reduceMul,reduceCtorEq,WP]);exact hZ):P:=e q
theorem fm{P:Prop}(e:P:=by exact ZE (.refl _) ((Sub.refl _).skip _)):P:=e
theorem fp{P:Prop}(e:P:=by exact .mk (.refl _) ((hTs _).skip _) ⟨rfl,s2,rfl⟩):P:=e
theorem fw{P Q:Prop}(q:Q)(e:Q→P:=by intro hZ;(try simp only [go_sem,seval,Xt]);exact hZ):P:=e q
theorem fx{P Q:Prop}(q:Q)(e:Q→P:=by intro hZ;(try simp only [go_sem,seval,Tj]);exact hZ):P:=e q
theorem fB{P Q:Prop}(q:Q)(e:Q→P:=by intro hZ;(try simp only [go_sem,seval,Y8]);exact hZ):P:=e q
theorem fC{P Q:Prop}(q:Q)(e:Q→P:=by intro hZ;(try simp only [go_sem,Int.reduceEq,Int.reduceLT,Int.reduceLE,↓reduceIte,Nat.reduceEqDiff,Nat.reduceAdd,Nat.reduceSub,Nat.reduceLT,Nat.reduceLeDiff,Nat.reduceMul,reduceCtorEq,YC,x4,x5,x6,x7,n54,decide_true,decide_false,cu,cF,cB]);exact hZ):P:=e q
theorem fD{P Q:Prop}(q:Q)(e:Q→P:=by intro hZ;(try simp only [go_sem,seval,Zr,Int.toNat_natCast,G6,G3,Int.toNat_zero,Int.toNat_one]);exact hZ):P:=e q
theorem fE{P:Prop}(e:P:=by exact .mk (.tup3 (.nilA _ _ _) (.refl _) (.refl _)) ((((i4.sub hnd)).skip _).skip _) ⟨rfl,rfl⟩):P:=e
theorem fF{P Q:Prop}(q:Q)(e:Q→P:=by intro hZ;(try simp only [go_sem,seval,Zn,cg]);exact hZ):P:=e q
theorem fH{P Q:Prop}(q:Q)(e:Q→P:=by intro hZ;(try simp only [go_sem,seval,W5,nA9,nA7,nA1,n97,n91,n71]);exact hZ):P:=e q
theorem fI{P:Prop}(e:P:=by exact .mk (.refl _) (hTs _) ⟨rfl,rfl,i2⟩):P:=e
theorem fJ{P Q:Prop}(q:Q)(e:Q→P:=by intro hZ;(try simp only [go_sem,seval,Xt,cu,e1,e2,decide_true,decide_false]);exact hZ):P:=e q
theorem fK{P Q:Prop}(q:Q)(e:Q→P:=by intro hZ;(try simp only [go_sem,Int.reduceEq,Int.reduceLT,Int.reduceLE,↓reduceIte,Nat.reduceEqDiff,Nat.reduceAdd,Nat.reduceSub,Nat.reduceLT,Nat.reduceLeDiff,Nat.reduceMul,reduceCtorEq,ZF,fy,decide_false,f1,f3,f4,f5,Zq,or_self]);exact hZ):P:=e q
theorem fM{P Q:Prop}(q:Q)(e:Q→P:=by intro hZ;(try simp only [go_sem,Int.reduceEq,Int.reduceLT,Int.reduceLE,↓reduceIte,Nat.reduceEqDiff,Nat.reduceAdd,Nat.reduceSub,Nat.reduceLT,Nat.reduceLeDiff,Nat.reduceMul,reduceCtorEq,ZF,Zq,decide_false,f1,f3,f4,f5,Zq,or_self]);exact hZ):P:=e q
theorem fO{P Q:Prop}(q:Q)(e:Q→P:=by intro hZ;(try simp only [go_sem,Int.reduceEq,Int.reduceLT,Int.reduceLE,↓reduceIte,Nat.reduceEqDiff,Nat.reduceAdd,Nat.reduceSub,Nat.reduceLT,Nat.reduceLeDiff,Nat.reduceMul,reduceCtorEq,Xs,j3.one,j3.cells,Cls.emb,Za n15,j2]);exact hZ):P:=e q
theorem fP{P Q:Prop}(q:Q)(e:Q→P:=by intro hZ;(try simp only [go_sem,seval,WO]);exact hZ):P:=e q
theorem fQ{P Q:Prop}(q:Q)(e:Q→P:=by intro hZ;(try simp only [go_sem,Int.reduceEq,Int.reduceLT,Int.reduceLE,↓reduceIte,Nat.reduceEqDiff,Nat.reduceAdd,Nat.reduceSub,Nat.reduceLT,Nat.reduceLeDiff,Nat.reduceMul,reduceCtorEq,YC,e1,e2,decide_true,decide_false]);exact hZ):P:=e q
theorem fR{P Q:Prop}(q:Q)(e:Q→P:=by intro hZ;(try simp only [go_sem,seval,Xt,cu,e1,decide_true,decide_false]);exact hZ):P:=e q
theorem fT{P Q:Prop}(q:Q)(e:Q→P:=by intro hZ;(try simp only [go_sem,Int.reduceEq,Int.reduceLT,Int.reduceLE,↓reduceIte,Nat.reduceEqDiff,Nat.reduceAdd,Nat.reduceSub,Nat.reduceLT,Nat.reduceLeDiff,Nat.reduceMul,reduceCtorEq,Xu,s2',s8,List.length_singleton]);exact hZ):P:=e q
theorem fU{P Q:Prop}(q:Q)(e:Q→P:=by intro hZ;(try simp only [go_sem,Int.reduceEq,Int.reduceLT,Int.reduceLE,↓reduceIte,Nat.reduceEqDiff,Nat.reduceAdd,Nat.reduceSub,Nat.reduceLT,Nat.reduceLeDiff,Nat.reduceMul,reduceCtorEq,VO,n62,List.length_singleton]);exact hZ):P:=e q
theorem fV{P Q:Prop}(q:Q)(e:Q→P:=by intro hZ;(try simp only [go_sem,Int.reduceEq,Int.reduceLT,Int.reduceLE,↓reduceIte,Nat.reduceEqDiff,Nat.reduceAdd,Nat.reduceSub,Nat.reduceLT,Nat.reduceLeDiff,Nat.reduceMul,reduceCtorEq,ZF,fy,decide_false,Zq,Vh]);exact hZ):P:=e q
theorem fW{P Q:Prop}(q:Q)(e:Q→P:=by intro hZ;(try simp only [go_sem,Int.reduceEq,Int.reduceLT,Int.reduceLE,↓reduceIte,Nat.reduceEqDiff,Nat.reduceAdd,Nat.reduceSub,Nat.reduceLT,Nat.reduceLeDiff,Nat.reduceMul,reduceCtorEq,ZF,Zq,decide_false,Zq,Vh]);exact hZ):P:=e q
theorem fX{P Q:Prop}(q:Q)(e:Q→P:=by intro hZ;(try simp only [go_sem,Int.reduceEq,Int.reduceLT,Int.reduceLE,↓reduceIte,Nat.reduceEqDiff,Nat.reduceAdd,Nat.reduceSub,Nat.reduceLT,Nat.reduceLeDiff,Nat.reduceMul,reduceCtorEq,Xs,hv'.one,hv'.cells,g13]);exact hZ):P:=e q
theorem fY{P Q:Prop}(q:Q)(e:Q→P:=by intro hZ;(try simp only [go_sem,Int.reduceEq,Int.reduceLT,Int.reduceLE,↓reduceIte,Nat.reduceEqDiff,Nat.reduceAdd,Nat.reduceSub,Nat.reduceLT,Nat.reduceLeDiff,Nat.reduceMul,reduceCtorEq,XD,lfO,rwO,n8r,n85,nr5]);exact hZ):P:=e q
theorem fZ{P Q:Prop}(q:Q)(e:Q→P:=by intro hZ;(try simp only [go_sem,seval,Zn,Za n105,Zb n5k,gT5]);exact hZ):P:=e q
theorem gh{P Q:Prop}(q:Q)(e:Q→P:=by intro hZ;(try simp only [go_sem,Int.reduceEq,Int.reduceLT,Int.reduceLE,↓reduceIte,Nat.reduceEqDiff,Nat.reduceAdd,Nat.reduceSub,Nat.reduceLT,Nat.reduceLeDiff,Nat.reduceMul,reduceCtorEq,Xs,j2,j3.one,j3.cells]);exact hZ):P:=e q
theorem gi{P Q:Prop}(q:Q)(e:Q→P:=by intro hZ;(try simp only [go_sem,Int.reduceEq,Int.reduceLT,Int.reduceLE,↓reduceIte,Nat.reduceEqDiff,Nat.reduceAdd,Nat.reduceSub,Nat.reduceLT,Nat.reduceLeDiff,Nat.reduceMul,reduceCtorEq,Un,WF,n11,decide_true]);exact hZ):P:=e q
theorem gj{P Q:Prop}(q:Q)(e:Q→P:=by intro hZ;(try simp only [go_sem,Int.reduceEq,Int.reduceLT,Int.reduceLE,↓reduceIte,Nat.reduceEqDiff,Nat.reduceAdd,Nat.reduceSub,Nat.reduceLT,Nat.reduceLeDiff,Nat.reduceMul,reduceCtorEq,Xs,hv'.one,hv'.cells]);exact hZ):P:=e q
theorem gq{P Q:Prop}(q:Q)(e:Q→P:=by intro hZ;(try simp only [go_sem,Int.reduceEq,Int.reduceLT,Int.reduceLE,↓reduceIte,Nat.reduceEqDiff,Nat.reduceAdd,Nat.reduceSub,Nat.reduceLT,Nat.reduceLeDiff,Nat.reduceMul,reduceCtorEq,XD,nrl,n5l,hgl,sgl]);exact hZ):P:=e q
theorem gu{P Q:Prop}(q:Q)(e:Q→P:=by intro hZ;(try simp only [go_sem,Int.reduceEq,Int.reduceLT,Int.reduceLE,↓reduceIte,Nat.reduceEqDiff,Nat.reduceAdd,Nat.reduceSub,Nat.reduceLT,Nat.reduceLeDiff,Nat.reduceMul,reduceCtorEq,ZF,fy,decide_true]);exact hZ):P:=e q
theorem gz{P Q:Prop}(q:Q)(e:Q→P:=by intro hZ;(try simp only [go_sem,seval,Uc]);exact hZ):P:=e q
theorem gA{P Q:Prop}(q:Q)(e:Q→P:=by intro hZ;(try simp only [go_sem,Int.reduceEq,Int.reduceLT,Int.reduceLE,↓reduceIte,Nat.reduceEqDiff,Nat.reduceAdd,Nat.reduceSub,Nat.reduceLT,Nat.reduceLeDiff,Nat.reduceMul,reduceCtorEq,Xs,ci,Za n132]);exact hZ):P:=e q
theorem gB{P Q:Prop}(q:Q)(e:Q→P:=by intro hZ;(try simp only [go_sem,Int.reduceEq,Int.reduceLT,Int.reduceLE,↓reduceIte,Nat.reduceEqDiff,Nat.reduceAdd,Nat.reduceSub,Nat.reduceLT,Nat.reduceLeDiff,Nat.reduceMul,reduceCtorEq,Wu,tkE,NR,h2t]);exact hZ):P:=e q
theorem gC{P Q:Prop}(q:Q)(e:Q→P:=by intro hZ;(try simp only [go_sem,Int.reduceEq,Int.reduceLT,Int.reduceLE,↓reduceIte,Nat.reduceEqDiff,Nat.reduceAdd,Nat.reduceSub,Nat.reduceLT,Nat.reduceLeDiff,Nat.reduceMul,reduceCtorEq,Xs,Za n15,j2]);exact hZ):P:=e q
theorem gE{P Q:Prop}(q:Q)(e:Q→P:=by intro hZ;(try simp only [go_sem,Int.reduceEq,Int.reduceLT,Int.reduceLE,↓reduceIte,Nat.reduceEqDiff,Nat.reduceAdd,Nat.reduceSub,Nat.reduceLT,Nat.reduceLeDiff,Nat.reduceMul,reduceCtorEq,ZF,fy,Zq,Vh]);exact hZ):P:=e q
theorem gF{P Q:Prop}(q:Q)(e:Q→P:=by intro hZ;(try simp only [go_sem,Int.reduceEq,Int.reduceLT,Int.reduceLE,↓reduceIte,Nat.reduceEqDiff,Nat.reduceAdd,Nat.reduceSub,Nat.reduceLT,Nat.reduceLeDiff,Nat.reduceMul,reduceCtorEq,ZF,Zq,Zq,Vh]);exact hZ):P:=e q
theorem gG{P:Prop}(e:P:=by exact .mk (.refl _) (.refl _) ⟨rfl,rfl⟩):P:=e
theorem gH{P Q:Prop}(q:Q)(e:Q→P:=by intro hZ;(try simp only [go_sem,Int.reduceEq,Int.reduceLT,Int.reduceLE,↓reduceIte,Nat.reduceEqDiff,Nat.reduceAdd,Nat.reduceSub,Nat.reduceLT,Nat.reduceLeDiff,Nat.reduceMul,reduceCtorEq,Wu,hgb]);exact hZ):P:=e q
theorem gI{P Q:Prop}(q:Q)(e:Q→P:=by intro hZ;(try simp only [go_sem,Int.reduceEq,Int.reduceLT,Int.reduceLE,↓reduceIte,Nat.reduceEqDiff,Nat.reduceAdd,Nat.reduceSub,Nat.reduceLT,Nat.reduceLeDiff,Nat.reduceMul,reduceCtorEq,Xs,co]);exact hZ):P:=e q
theorem gJ{P Q:Prop}(q:Q)(e:Q→P:=by intro hZ;(try simp only [go_sem,Int.reduceEq,Int.reduceLT,Int.reduceLE,↓reduceIte,Nat.reduceEqDiff,Nat.reduceAdd,Nat.reduceSub,Nat.reduceLT,Nat.reduceLeDiff,Nat.reduceMul,reduceCtorEq,Xs,ci]);exact hZ):P:=e q
theorem gK{P Q:Prop}(q:Q)(e:Q→P:=by intro hZ;(try simp only [go_sem,Int.reduceEq,Int.reduceLT,Int.reduceLE,↓reduceIte,Nat.reduceEqDiff,Nat.reduceAdd,Nat.reduceSub,Nat.reduceLT,Nat.reduceLeDiff,Nat.reduceMul,reduceCtorEq,Xs,cB]);exact hZ):P:=e q
theorem gL{P Q:Prop}(q:Q)(e:Q→P:=by intro hZ;(try simp only [go_sem,Int.reduceEq,Int.reduceLT,Int.reduceLE,↓reduceIte,Nat.reduceEqDiff,Nat.reduceAdd,Nat.reduceSub,Nat.reduceLT,Nat.reduceLeDiff,Nat.reduceMul,reduceCtorEq,VO,ci]);exact hZ):P:=e q
theorem gM{P Q:Prop}(q:Q)(e:Q→P:=by intro hZ;(try simp only [go_sem,Int.reduceEq,Int.reduceLT,Int.reduceLE,↓reduceIte,Nat.reduceEqDiff,Nat.reduceAdd,Nat.reduceSub,Nat.reduceLT,Nat.reduceLeDiff,Nat.reduceMul,reduceCtorEq,N0,Zq]);exact hZ):P:=e q
theorem gN{P Q:Prop}(q:Q)(e:Q→P:=by intro hZ;(try simp only [go_sem,Int.reduceEq,Int.reduceLT,Int.reduceLE,↓reduceIte,Nat.reduceEqDiff,Nat.reduceAdd,Nat.reduceSub,Nat.reduceLT,Nat.reduceLeDiff,Nat.reduceMul,reduceCtorEq,aE]);exact hZ):P:=e q
theorem gO{P Q:Prop}(q:Q)(e:Q→P:=by intro hZ;(try simp only [go_sem,Int.reduceEq,Int.reduceLT,Int.reduceLE,↓reduceIte,Nat.reduceEqDiff,Nat.reduceAdd,Nat.reduceSub,Nat.reduceLT,Nat.reduceLeDiff,Nat.reduceMul,reduceCtorEq,ZF]);exact hZ):P:=e q
theorem gP{P Q:Prop}(q:Q)(e:Q→P:=by intro hZ;(try simp only [go_sem,Int.reduceEq,Int.reduceLT,Int.reduceLE,↓reduceIte,Nat.reduceEqDiff,Nat.reduceAdd,Nat.reduceSub,Nat.reduceLT,Nat.reduceLeDiff,Nat.reduceMul,reduceCtorEq,Xs]);exact hZ):P:=e q
theorem gQ{P Q:Prop}(q:Q)(e:Q→P:=by intro hZ;(try simp only [go_sem,Int.reduceEq,Int.reduceLT,Int.reduceLE,↓reduceIte,Nat.reduceEqDiff,Nat.reduceAdd,Nat.reduceSub,Nat.reduceLT,Nat.reduceLeDiff,Nat.reduceMul,reduceCtorEq,Un]);exact hZ):P:=e q
theorem gR{P Q:Prop}(q:Q)(e:Q→P:=by intro hZ;(try simp only [go_sem,Int.reduceEq,Int.reduceLT,Int.reduceLE,↓reduceIte,Nat.reduceEqDiff,Nat.reduceAdd,Nat.reduceSub,Nat.reduceLT,Nat.reduceLeDiff,Nat.reduceMul,reduceCtorEq,Jl]);exact hZ):P:=e q
theorem gX{P Q:Prop}(q:Q)(e:Q→P:=by intro hZ;(try simp only [go_sem,Int.reduceEq,Int.reduceLT,Int.reduceLE,↓reduceIte,Nat.reduceEqDiff,Nat.reduceAdd,Nat.reduceSub,Nat.reduceLT,Nat.reduceLeDiff,Nat.reduceMul,reduceCtorEq,Jj]);exact hZ):P:=e q
theorem gY{P Q:Prop}(q:Q)(e:Q→P:=by intro hZ;(try simp only [go_sem,Int.reduceEq,Int.reduceLT,Int.reduceLE,↓reduceIte,Nat.reduceEqDiff,Nat.reduceAdd,Nat.reduceSub,Nat.reduceLT,Nat.reduceLeDiff,Nat.reduceMul,reduceCtorEq,Jg]);exact hZ):P:=e q
theorem gZ{P Q:Prop}(q:Q)(e:Q→P:=by intro hZ;(try simp only [go_sem,Int.reduceEq,Int.reduceLT,Int.reduceLE,↓reduceIte,Nat.reduceEqDiff,Nat.reduceAdd,Nat.reduceSub,Nat.reduceLT,Nat.reduceLeDiff,Nat.reduceMul,reduceCtorEq,H8]);exact hZ):P:=e q
theorem hJ{P Q:Prop}(q:Q)(e:Q→P:=by intro hZ;(try simp only [go_sem,Int.reduceEq,Int.reduceLT,Int.reduceLE,↓reduceIte,Nat.reduceEqDiff,Nat.reduceAdd,Nat.reduceSub,Nat.reduceLT,Nat.reduceLeDiff,Nat.reduceMul,reduceCtorEq,Bx]);exact hZ):P:=e q
theorem ia{P Q:Prop}(q:Q)(e:Q→P:=by intro hZ;(simp only [hst,ite_self]);exact hZ):P:=e q
theorem ib{P Q:Prop}(q:Q)(e:Q→P:=by intro hZ;(try simp only [go_sem,seval,W5]);exact hZ):P:=e q
theorem ic{P Q:Prop}(q:Q)(e:Q→P:=by intro hZ;(try simp only [go_sem,seval,Xt,cu,e1,e2,decide_true]);exact hZ):P:=e q
theorem ig{P:Prop}(e:P:=by exact Zf.turn _ rfl):P:=e
theorem ii{P Q:Prop}(q:Q)(e:Q→P:=by intro hZ;(try simp only [go_sem,seval,tb9]);exact hZ):P:=e q
theorem ij{P Q:Prop}(q:Q)(e:Q→P:=by intro hZ;(try simp only [go_sem,seval,W5,n141,n147,nA9,nA7,nA1,n97,n91,n71,lp,lp1,lp0,decide_true]);exact hZ):P:=e q
theorem ik{P:Prop}(e:P:=by exact .mk (.refl _) (.cons _ _) ⟨rfl,rfl⟩):P:=e
theorem il{P Q:Prop}(q:Q)(e:Q→P:=by intro hZ;(simp only [Sem.run_bind,run_underlying hu,Result.andThen_ok]);exact hZ):P:=e q
theorem im{P:Prop}(e:P:=by exact ZE (.tup2 (.nilA _ _ _) (.refl _)) ((Sub.refl _).skip _)):P:=e
theorem io{P Q:Prop}(q:Q)(e:Q→P:=by intro hZ;(try simp only [Bool.and_false,Bool.false_and,Bool.true_and]);exact hZ):P:=e q
theorem ip{P Q:Prop}(q:Q)(e:Q→P:=by intro hZ;(try simp only [go_sem,seval,Vu,k0,x1,x2,x3,g4,g5,ci,List.length_map,Int.toNat_natCast,Option.some.injEq,forall_eq',true_and,decide_true,decide_false]);exact hZ):P:=e q
theorem iq{P:Prop}(e:P:=by exact ZE (.refl _) ((((Sub.refl σ).skip _).skip _).skip _)):P:=e
theorem ir{P:Prop}(e:P:=by exact .mk i2.wk (i3.sub hnd) ⟨rfl,rfl⟩):P:=e
theorem iu{P Q:Prop}(q:Q)(e:Q→P:=by intro hZ;(simp only [Instr.typeAssert,Sem.run_bind,run_underlying hd,Result.andThen_ok]);exact hZ):P:=e q
theorem iw{P Q:Prop}(q:Q)(e:Q→P:=by intro hZ;(try simp only [go_sem,seval,XK]);exact hZ):P:=e q
theorem ix{P Q:Prop}(q:Q)(e:Q→P:=by intro hZ;(try simp only [go_sem,seval,UZ]);exact hZ):P:=e q
theorem iy{P Q:Prop}(q:Q)(e:Q→P:=by intro hZ;(try simp only [go_sem,seval,U1]);exact hZ):P:=e q
theorem iz{P Q:Prop}(q:Q)(e:Q→P:=by intro hZ;(try simp only [go_sem,seval,U0]);exact hZ):P:=e q
theorem iA{P Q:Prop}(q:Q)(e:Q→P:=by intro hZ;(try simp only [go_sem,seval,RU,ci,hl8]);exact hZ):P:=e q
theorem iB{P:Prop}(e:P:=by exact ⟨μ z,hlt,z,hz,rfl,c2.wk (.of_turn hk _ hf) hs,((hv1.trans v).trans v2).trans (hs.ev w')⟩):P:=e
theorem iC{P Q:Prop}(q:Q)(e:Q→P:=by intro hZ;(try simp only [go_sem,seval,tb9,k0,y1,y2,y3,g1,ZP,List.length_map,Int.toNat_natCast,Option.some.injEq,forall_eq',true_and,decide_false]);exact hZ):P:=e q
theorem iD{P Q:Prop}(q:Q)(e:Q→P:=by intro hZ;(try simp only [go_sem,seval,TB,gn,gd,ga,gw,h1,Ne.symm h1,n1,n2,n3,n4,hwc]);exact hZ):P:=e q
theorem iE{P Q:Prop}(q:Q)(e:Q→P:=by intro hZ;(try simp only [go_sem,seval,TA,gn,gd,ga,gw,h1,Ne.symm h1,n1,n2,n3,n4,hwc]);exact hZ):P:=e q
theorem iF{P:Prop}(e:P:=by exact ⟨rfl,m,rfl⟩):P:=e
theorem iG{P:Prop}(e:P:=by exact ⟨_,h,rfl⟩):P:=e
theorem iH{P:Prop}(e:P:=by exact (Sub.refl _).skip _):P:=e
theorem iI{P Q:Prop}(q:Q)(e:Q→P:=by intro hZ;(try simp only [go_sem,seval,tb9,Zi]);exact hZ):P:=e q
theorem iJ{P Q:Prop}(q:Q)(e:Q→P:=by intro hZ;(try simp only [go_sem,seval,Zn,gT5]);exact hZ):P:=e q
theorem iK{P Q:Prop}(q:Q)(e:Q→P:=by intro hZ;(simp only [Nat.zero_add]);exact hZ):P:=e q
theorem iL{P:Prop}(e:P:=by exact .mk (.refl _) (.cons _ _) hr):P:=e
theorem iM{P Q:Prop}(q:Q)(e:Q→P:=by intro hZ;(try simp only [go_sem,seval,Ul]);exact hZ):P:=e q
theorem iN{P Q:Prop}(q:Q)(e:Q→P:=by intro hZ;(try simp only [go_sem,seval,RV]);exact hZ):P:=e q
theorem iO{P Q:Prop}(q:Q)(e:Q→P:=by intro hZ;(try simp only [go_sem,seval,RT]);exact hZ):P:=e q
theorem iP{P Q:Prop}(q:Q)(e:Q→P:=by intro hZ;(try simp only [go_sem,seval,RP]);exact hZ):P:=e q
theorem iQ{P:Prop}(e:P:=by exact ⟨_,hrun,v',σ2,k3,j1,j2,v.trans j3⟩):P:=e
theorem iR{P:Prop}(e:P:=by exact .mk (.refl _) ⟨rfl,rfl⟩):P:=e
theorem iS{P Q:Prop}(q:Q)(e:Q→P:=by intro hZ;(try simp only [go_sem,seval,Zn,cp]);exact hZ):P:=e q
end Go.Vx
section
namespace Go.Vx
open Go.RowKit
inductive Rt where
 | none
 | full
 | tip (b e c:Nat)
inductive AV where
 | val (v:Value)
 | list (r:Rt) (s:Nat) (es:List (List AV))
 | ro (cells:List AV)
 | agg (cells:List AV)
 | tup (vs:List AV)
 | any
def lim:Nat:=137438953472
def Pe (r:Rt)(a:Option Addr)(n cap size:Nat):Prop :=
 match r with
 | .none=>True
 | .full=>cap=n
 | .tip b e c=>∃ o,a=some ⟨b,o,Option.none⟩∧o+n * size=e∧o+cap * size=c
inductive V (L:Nat→Nat→Prop) (w:World):AV→Value→Prop where
 | val (v:Value):V L w (.val v) v
 | any (v:Value):V L w .any v
 | agg (cs:List AV) (vs:List Value) (hl:cs.length=vs.length) (h:∀ (i:Nat) (c:AV) (v:Value),cs[i]?=some c→vs[i]?=some v→V L w c v):V L w (.agg cs) (.agg vs.toArray)
 | tup (cs:List AV) (vs:List Value) (hl:cs.length=vs.length) (h:∀ (i:Nat) (c:AV) (v:Value),cs[i]?=some c→vs[i]?=some v→V L w c v):V L w (.tup cs) (.tuple vs.toArray)
 | ro (cs:List AV) (b o:Nat) (rd:Nat→Value) (h1:∀ (j:Nat) (c:AV),cs[j]?=some c→¬ L b (o+j)∧w.cell? ⟨b,o+j,none⟩=some (rd j)∧(rd j).oneCell'=true)
  (h2:∀ (j:Nat) (c:AV),cs[j]?=some c→V L w c (rd j)):V L w (.ro cs) (.pointer (some ⟨b,o,none⟩))
 | list (r:Rt) (size:Nat) (es:List (List AV)) (cap:Nat) (a:Option Addr) (b o:Nat) (rd:Nat→Value)
  (hcap:es.length≤cap) (hlim:es.length≤lim) (hsz:∀ (i:Nat) (e:List AV),es[i]?=some e→e.length=size) (ha:es≠[]→a=some ⟨b,o,none⟩)
  (hr:Pe r a es.length cap size)
  (h1:∀ (i:Nat) (e:List AV) (j:Nat) (c:AV),es[i]?=some e→e[j]?=some c→¬ L b (o+(i * size+j))∧w.cell? ⟨b,o+(i * size+j),none⟩=some (rd (i * size+j))∧(rd (i * size+j)).oneCell'=true)
  (h2:∀ (i:Nat) (e:List AV) (j:Nat) (c:AV),es[i]?=some e→e[j]?=some c→V L w c (rd (i * size+j))):V L w (.list r size es) (.slice a es.length cap)
theorem V.mono {L L':Nat→Nat→Prop}{w w':World}(hL:∀ b o,b<w.heap.size→L' b o→L b o)
 (hc:∀ b o,b<w.heap.size→¬ L b o→w'.cell? ⟨b,o,none⟩=w.cell? ⟨b,o,none⟩) {a:AV} {v:Value} (h:V L w a v):V L' w' a v:=by
 induction h with
 | val v=>exact .val v
 | any v=>exact .any v
 | agg cs vs hl _ ih=>exact .agg cs vs hl ih
 | tup cs vs hl _ ih=>exact .tup cs vs hl ih
 | ro cs b o rd h1 _ ih =>
   refine .ro cs b o rd (fun j c hj=>?_) ih
   obtain ⟨hn,hcell,h1c⟩:=h1 j c hj
   have hb:=World.block_lt_of_cell? w _ hcell
   exact ⟨fun hl=>hn (hL _ _ hb hl),(hc _ _ hb hn).trans hcell,h1c⟩
 | list r size es cap a b o rd hcap hlim hsz ha hr h1 _ ih =>
   refine .list r size es cap a b o rd hcap hlim hsz ha hr (fun i e j c hi hj=>?_) ih
   obtain ⟨hn,hcell,h1c⟩:=h1 i e j c hi hj
   have hb:=World.block_lt_of_cell? w _ hcell
   exact ⟨fun hl=>hn (hL _ _ hb hl),(hc _ _ hb hn).trans hcell,h1c⟩
inductive AObj where
 | cells (cs:List AV)
 | tail (e c:Nat)
 | map (es:List (Value×AV×Nat)) (clock:Nat)
 | iter (m:Option Nat) (since:Nat) (seen:List Nat) (last:Nat)
 | raw (o:Obj)
abbrev Store:=List (Nat×AObj)
def AObj.liveAt:AObj→Nat→Prop
 | .tail e _,o=>e≤o
 | _,_=>True
def live (σ:Store)(b o:Nat):Prop:=∃ x,(b,x)∈σ∧x.liveAt o
def Store.get:Store→Nat→Option AObj
 | [],_=>none
 | (b',x)::r,b=>if b'=b then some x else Store.get r b
def Store.set:Store→Nat→AObj→Store
 | [],_,_=>[]
 | (b',x)::r,b,y=>if b'=b then (b',y)::r else (b',x)::Store.set r b y
def Store.del:Store→Nat→Store
 | [],_=>[]
 | (b',x)::r,b=>if b'=b then r else (b',x)::Store.del r b
def Zx:Store→Nat→Prop
 | [],_=>True
 | (b',_)::r,b=>b'≠b∧Zx r b
theorem ZW {σ:Store}{b:Nat}{x:AObj}(h:σ.get b=some x):(b,x)∈σ:=by
 induction σ with
 | nil=>simp [Store.get] at h
 | cons p r ih =>
   obtain ⟨b',y⟩:=p
   simp only [Store.get] at h
   split at h
   ·rename_i hb;subst hb;injection h with h;subst h;exact List.mem_cons_self
   ·exact List.mem_cons_of_mem _ (ih h)
theorem QL {σ:Store}{b:Nat}(h:∀ x,(b,x) ∉ σ):Zx σ b:=by
 induction σ with
 | nil=>trivial
 | cons p r ih =>
   obtain ⟨b',y⟩:=p
   refine ⟨fun e=>h y (by rw [e];exact List.mem_cons_self),ih fun x hx=>h x (List.mem_cons_of_mem _ hx)⟩
def Wh (L:Nat→Nat→Prop)(w:World)(b:Nat):AObj→Prop
 | .cells cs=>∃ (vs:List Value) (T:TypeId),w.heap[b]?=some (.cells vs.toArray T (0,0))∧vs.length=cs.length∧∀ (i:Nat) (c:AV) (v:Value),cs[i]?=some c→vs[i]?=some v→V L w c v
 | .tail _ c=>∃ (vs:Array Value) (T:TypeId),w.heap[b]?=some (.cells vs T (0,0))∧c≤vs.size
 | .map es clock=>∃ (ms:List MapEntry),w.heap[b]?=some (.map ms.toArray clock)∧ms.length=es.length ∧
  (∀ (i:Nat) (e:Value×AV×Nat) (m:MapEntry),es[i]?=some e→ms[i]?=some m→m.key=e.1∧m.born=e.2.2∧V L w e.2.1 m.val)∧(es.map (·.1)).Nodup∧(es.map (·.2.2)).Nodup∧∀ e∈es,e.2.2<clock
 | .iter m since seen last=>w.heap[b]?=some (.mapIter m since seen.toArray last)
 | .raw o=>w.heap[b]?=some o
structure Zo (σ:Store) (w:World):Prop where
 nodup:(σ.map (·.1)).Nodup
 obj:∀ b x,(b,x)∈σ→Wh (live σ) w b x
structure Ev (σ:Store) (w:World) (σ':Store) (w':World):Prop where
 os:w'.os=w.os
 tape:w'.tape=w.tape
 output:w'.output=w.output
 size:w.heap.size≤w'.heap.size
 cell:∀ b o,b<w.heap.size→¬ live σ b o→w'.cell? ⟨b,o,none⟩=w.cell? ⟨b,o,none⟩
 obj:∀ b,b<w.heap.size→(∀ o,¬ live σ b o)→w'.heap[b]?=w.heap[b]?
 live:∀ b o,b<w.heap.size→live σ' b o→live σ b o
 drawn:w.drawn≤w'.drawn
theorem Ev.refl (σ:Store)(w:World):Ev σ w σ w:=⟨rfl,rfl,rfl,Nat.le_refl _,fun _ _ _ _=>rfl,fun _ _ _=>rfl,fun _ _ _ h=>h,Nat.le_refl _⟩
theorem Ev.trans {σ σ1 σ2:Store}{w w1 w2:World}(h:Ev σ w σ1 w1)(k:Ev σ1 w1 σ2 w2):Ev σ w σ2 w2 where
 os:=k.os.trans h.os
 tape:=k.tape.trans h.tape
 output:=k.output.trans h.output
 size:=Nat.le_trans h.size k.size
 cell b o hb hn:=(k.cell b o (Nat.lt_of_lt_of_le hb h.size) (fun hl=>hn (h.live b o hb hl))).trans (h.cell b o hb hn)
 obj b hb hn:=(k.obj b (Nat.lt_of_lt_of_le hb h.size) (fun o hl=>hn o (h.live b o hb hl))).trans (h.obj b hb hn)
 live b o hb hl:=h.live b o hb (k.live b o (Nat.lt_of_lt_of_le hb h.size) hl)
 drawn:=Nat.le_trans h.drawn k.drawn
theorem V.ev {σ σ':Store}{w w':World}{a:AV}{v:Value}(h:V (live σ) w a v)(e:Ev σ w σ' w'):V (live σ') w' a v :=
 h.mono e.live (fun b o hb hn=>e.cell b o hb hn)
theorem Ev.drew (σ:Store)(w:World):Ev σ w σ { w with drawn:=w.drawn+1 }:=⟨rfl,rfl,rfl,Nat.le_refl _,fun _ _ _ _=>rfl,fun _ _ _=>rfl,fun _ _ _ h=>h,Nat.le_succ _⟩
theorem Wh.drew {L:Nat→Nat→Prop}{w:World}{b:Nat}{x:AObj}(h:Wh L w b x):Wh L { w with drawn:=w.drawn+1 } b x:=by
 have m:∀ a v,V L w a v→V L { w with drawn:=w.drawn+1 } a v:=fun a v h=>V.mono (L:=L) (w:=w) (L':=L) (w':={ w with drawn:=w.drawn+1 }) (fun _ _ _ h=>h) (fun _ _ _ _=>rfl) h
 cases x with
 | cells cs=>obtain ⟨vs,T,h1,h2,h3⟩:=h;exact ⟨vs,T,h1,h2,fun i c v hc hv=>m _ _ (h3 i c v hc hv)⟩
 | tail e c=>exact h
 | map es cl=>obtain ⟨ms,h1,h2,h5,h6⟩:=h;exact ⟨ms,h1,h2,fun i e q he hm=>⟨(h5 i e q he hm).1,(h5 i e q he hm).2.1,m _ _ (h5 i e q he hm).2.2⟩,h6⟩
 | iter _ _ _ _=>exact h
 | raw _=>exact h
theorem Zo.drew {σ:Store}{w:World}(h:Zo σ w):Zo σ { w with drawn:=w.drawn+1 } :=
 ⟨h.nodup,fun b x hx=>(h.obj b x hx).drew⟩
theorem Wh.lt {L:Nat→Nat→Prop}{w:World}{b:Nat}{x:AObj}(h:Wh L w b x):b<w.heap.size:=by
 have key:∀ o,w.heap[b]?=some o→b<w.heap.size:=fun o ho=>(Array.getElem?_eq_some_iff.1 ho).1
 cases x with
 | cells cs=>obtain ⟨vs,T,h1,_⟩:=h;exact key _ h1
 | tail e c=>obtain ⟨vs,T,h1,_⟩:=h;exact key _ h1
 | map es cl=>obtain ⟨ms,h1,_⟩:=h;exact key _ h1
 | iter _ _ _ _=>exact key _ h
 | raw _=>exact key _ h
theorem Zo.fresh {σ:Store}{w:World}(h:Zo σ w){b:Nat}(hb:w.heap.size≤b):Zx σ b :=
 QL fun x hx=>by have:=(h.obj b x hx).lt;omega
theorem O3 {σ:Store}{w:World}(h:Zo σ w){b o:Nat}(hl:live σ b o):b<w.heap.size:=by
 obtain ⟨x,hx,_⟩:=hl;exact (h.obj b x hx).lt
end Go.Vx
end
section
namespace Go.Vx
open Go.RowKit
abbrev Fr:=Nat→AV
def Fr.put (fr:Fr)(d:Nat)(v:AV):Fr:=fun i=>if i=d then v else fr i
def Fr.putO (fr:Fr):Option Nat→AV→Fr
 | some d,v=>fr.put d v
 | none,_=>fr
def cM:Value→AV
 | .slice none 0 0=>.list .full 0 []
 | v=>.val v
def cW:Value→AV
 | .agg cs=>.agg (cs.toList.map cM)
 | .tuple cs=>.tup (cs.toList.map cM)
 | v=>cM v
def AV.cells:AV→Option (List AV)
 | .agg cs=>some cs
 | .tup _=>none
 | .any=>none
 | .val v=>if v.oneCell' then some [.val v] else none
 | .list r s es=>some [.list r s es]
 | .ro cs=>some [.ro cs]
def AV.one:AV→Bool
 | .val v=>v.oneCell'
 | .list _ _ _=>true
 | .ro _=>true
 | _=>false
def cV:List AV→Option (List Value)
 | []=>some []
 | .val v::r=>match cV r with
   | some vs=>some (v::vs)
   | none=>none
 | _::_=>none
def AV.toVal:AV→Option Value
 | .val v=>some v
 | .agg cs=>match cV cs with
   | some vs=>some (.agg vs.toArray)
   | none=>none
 | _=>none
def Fr.ev (fr:Fr):Operand→AV
 | .tmp t=>fr t
 | .const v=>cW v
 | .global g=>.val (.pointer (some ⟨g,0,none⟩))
 | .func f=>.val (.func (.func f) #[] #[])
inductive ZO where
 | ret (v:AV)
 | pan (v:Value)
theorem dx (L:Nat→Nat→Prop)(w:World)(v:Value):V L w (cM v) v:=by
 unfold cM
 split
 ·exact V.list (b:=0) (o:=0) .full 0 [] 0 none (rd:=fun _=>.nilFunc) (by simp) (by simp [lim]) (by simp) (by simp) rfl (by simp) (by simp)
 ·exact .val _
theorem dD (L:Nat→Nat→Prop)(w:World)(v:Value):V L w (cW v) v:=by
 cases v with
 | agg cs =>
   refine V.agg (cs.toList.map cM) cs.toList (by simp) (fun i c v hc hv=>?_)
   simp only [List.getElem?_map,Option.map_eq_some_iff] at hc
   obtain ⟨v',hv',rfl⟩:=hc
   rw [hv] at hv'
   injection hv' with hv'
   subst hv'
   exact dx _ _ _
 | tuple cs =>
   refine V.tup (cs.toList.map cM) cs.toList (by simp) (fun i c v hc hv=>?_)
   simp only [List.getElem?_map,Option.map_eq_some_iff] at hc
   obtain ⟨v',hv',rfl⟩:=hc
   rw [hv] at hv'
   injection hv' with hv'
   subst hv'
   exact dx _ _ _
 | _=>simp only [cW];exact dx _ _ _
structure Wc (n:Nat) (L:Nat→Nat→Prop) (w:World) (fr:Fr) (tmps:Array Value):Prop where
 size:tmps.size=n
 slot:∀ i,i<n→V L w (fr i) (tmps.getD i undef)
theorem Wc.ev {n:Nat}{σ σ':Store}{w w':World}{fr:Fr}{tmps:Array Value}(h:Wc n (live σ) w fr tmps)(e:Ev σ w σ' w'):Wc n (live σ') w' fr tmps :=
 ⟨h.size,fun i hi=>(h.slot i hi).ev e⟩
theorem Wc.put {n:Nat}{L:Nat→Nat→Prop}{w:World}{fr:Fr}{a:Act}(h:Wc n L w fr a.tmps){d:Option Nat}(hd:∀ k,d=some k→k<n){av:AV}{v:Value}(hv:V L w av v) :
 Wc n L w (fr.putO d av) (a.put d v).tmps:=by
 cases d with
 | none=>exact h
 | some k =>
   have hk:=hd k rfl
   refine ⟨by simp [Act.put,h.size],fun i hi=>?_⟩
   by_cases e:i=k
   ·subst e
    have:i<a.tmps.size:=by rw [h.size];exact hi
    simpa [Fr.putO,Fr.put,Act.put,Array.getD_eq_getD_getElem?,this] using hv
   ·have:=h.slot i hi
    simpa [Fr.putO,Fr.put,e,Act.put,Array.getD_eq_getD_getElem?,Array.getElem?_setIfInBounds,Ne.symm e] using this
def de (n:Nat):Operand→Bool
 | .tmp t=>t<n
 | _=>true
theorem Wc.operand {n:Nat}{L:Nat→Nat→Prop}{w:World}{fr:Fr}{a:Act}(h:Wc n L w fr a.tmps){x:Operand}(hx:de n x=true):V L w (fr.ev x) (a.eval x):=by
 cases x with
 | tmp t=>exact h.slot t (by simpa [de] using hx)
 | const v=>exact dD _ _ _
 | global g=>exact V.val _
 | func f=>exact V.val _
def Zh (P:Program)(T:TypeId):Option Nat:=(P.info? T).map (·.size)
def Ze (P:Program)(T:TypeId):Option Bool:=(P.underlying T).map fun | .struct _ | .array _ _=>true | _=>false
def Zl (P:Program)(T:TypeId):Option Value:=(P.info? T).bind (·.zero)
def ZA (P:Program)(T:TypeId):Option TypeId:=match P.underlying T with | some (.slice e)=>some e | _=>none
def ZQ (P:Program)(T:TypeId):Option Nat:=(P.info? T).map (·.bytes)
def Zz (P:Program)(s:TypeId)(f:Nat):Option Nat :=
 match P.underlying s with
 | some (.struct fs)=>(fs[f]?).bind fun fl=>match Zh P fl.type with | some (_+1)=>some fl.offset | _=>none
 | _=>none
def fTy (P:Program)(s:TypeId)(f:Nat):Option (Nat×TypeId) :=
 match P.underlying s with
 | some (.struct fs)=>(fs[f]?).map fun fl=>(fl.offset,fl.type)
 | _=>none
def Xn (P:Program)(f:FuncId):Bool :=
 match P.funcs[f]? with
 | some fn=>fn.name != "runtime.NumGoroutine"&&fn.body.isSome
 | none=>false
theorem Z2 {P:Program}{T n:Nat}(h:Zh P T=some n)(w:World):(sizeOf T).run P w=.ok n w:=by
 unfold Zh at h
 simp only [Option.map_eq_some_iff] at h
 obtain ⟨i,hi,rfl⟩:=h
 simp [sizeOf,typeInfo,hi]
theorem WT {P:Program}{T:Nat}{b:Bool}(h:Ze P T=some b)(w:World):(isAgg T).run P w=.ok b w:=by
 unfold Ze at h
 simp only [Option.map_eq_some_iff] at h
 obtain ⟨d,hd,rfl⟩:=h
 simp only [isAgg,Sem.run_bind,run_underlying hd,Result.andThen_ok]
 cases d<;>rfl
theorem WL {P:Program}{T:Nat}{z:Value}(h:Zl P T=some z)(w:World):(zeroValue T).run P w=.ok z w:=by
 unfold Zl at h
 simp only [Option.bind_eq_some_iff] at h
 obtain ⟨i,hi,hz⟩:=h
 simp [zeroValue,typeInfo,hi,hz]
theorem Wq {P:Program}{f:FuncId}(h:Xn P f=true)(args:Array Value)(w:World):(callFunc f args).run P w=.ok (.enter f args) w:=by
 unfold Xn at h
 cases hf:P.funcs[f]? with
 | none=>simp [hf] at h
 | some fn =>
   simp only [hf,Bool.and_eq_true,bne_iff_ne,ne_eq] at h
   obtain ⟨h1,h2⟩:=h
   have h3:fn.body.isNone=false:=by cases hb:fn.body<;>simp_all
   simp only [callFunc,Sem.run_bind,run_program,Result.andThen_ok,hf,h3]
   rw [if_neg (by simpa using h1)]
   rfl
def Vj (P:Program)(T:TypeId)(cs:List AV):Option AV :=
 match Ze P T,Zh P T with
 | some true,some n=>if n≤cs.length then some (.agg (cs.take n)) else none
 | some false,some _=>cs.head?
 | _,_=>none
theorem YY (b o n:Nat):(⟨b,o,none⟩:Addr).add n=⟨b,o+n,none⟩:=by unfold Addr.add;split<;>simp_all
theorem TJ {P:Program}{T:TypeId}{L:Nat→Nat→Prop}{w:World}{b o:Nat}{cs:List AV}{av:AV}(h:Vj P T cs=some av)
 (hc:∀ (j:Nat) (c:AV),cs[j]?=some c→∃ v,w.cell? ⟨b,o+j,none⟩=some v∧V L w c v):∃ v,(loadVar T ⟨b,o,none⟩).run P w=.ok v w∧V L w av v:=by
 unfold Vj at h
 split at h
 ·rename_i n ha hs
  split at h
  ·rename_i hn
   injection h with h
   subst h
   have hex:∀ j:Nat,∃ v:Value,∀ c,(cs.take n)[j]?=some c→w.cell? ⟨b,o+j,none⟩=some v∧V L w c v:=by
    intro j
    by_cases hj:j<n
    ·have hj':j<cs.length:=by omega
     obtain ⟨v,h1,h2⟩:=hc j cs[j] (List.getElem?_eq_getElem hj')
     refine ⟨v,fun c hcj=>?_⟩
     rw [List.getElem?_take_of_lt hj,List.getElem?_eq_getElem hj'] at hcj
     injection hcj with hcj
     subst hcj
     exact ⟨h1,h2⟩
    ·exact ⟨.nilFunc,fun c hcj=>by simp [List.getElem?_take,hj] at hcj⟩
   let f:=fun j=>(hex j).choose
   have hf:∀ j c,(cs.take n)[j]?=some c→w.cell? ⟨b,o+j,none⟩=some (f j)∧V L w c (f j):=fun j=>(hex j).choose_spec
   refine ⟨.agg ((List.range n).map f).toArray,?_,?_⟩
   ·have hl:=run_loadCells_list (P:=P) (w:=w) ⟨b,o,none⟩ ((List.range n).map f) (fun j v hj=>by
     simp only [List.getElem?_map,Option.map_eq_some_iff] at hj
     obtain ⟨k,hk,rfl⟩:=hj
     have hkn:j<n:=by
      have:=(List.getElem?_eq_some_iff.1 hk).1
      simpa using this
     simp [List.getElem?_range hkn] at hk
     subst hk
     rw [YY]
     exact (hf j cs[j] (by rw [List.getElem?_take_of_lt hkn];exact List.getElem?_eq_getElem (by omega))).1)
    simp only [List.length_map,List.length_range] at hl
    simp only [loadVar,Sem.run_bind,WT ha,Z2 hs,Result.andThen_ok,if_true,hl,Sem.run_pure]
   ·refine V.agg _ _ (by simp;omega) (fun i c v hci hvi=>?_)
    simp only [List.getElem?_map,Option.map_eq_some_iff] at hvi
    obtain ⟨k,hk,rfl⟩:=hvi
    have hkn:i<n:=by
     have:=(List.getElem?_eq_some_iff.1 hk).1
     simpa using this
    simp [List.getElem?_range hkn] at hk
    subst hk
    exact (hf i c hci).2
  ·cases h
 ·rename_i n ha hs
  cases cs with
  | nil=>simp at h
  | cons c r =>
    simp at h
    subst h
    obtain ⟨v,h1,h2⟩:=hc 0 c rfl
    simp only [Nat.add_zero] at h1
    exact ⟨v,by simp [loadVar,WT ha,h1],h2⟩
 ·cases h
end Go.Vx
end
section
namespace Go.Vx
open Go.RowKit
theorem UG (w:World)(o:Obj)(a:Addr)(h:a.block<w.heap.size):(w.alloc o).cell? a=w.cell? a :=
 World.cell?_of_block (w:=w) (Below.heap_alloc w o a.block h)
theorem Ev.alloc {σ:Store}{w:World}(hσ:Zo σ w)(o:Obj)(x:AObj):Ev σ w ((w.heap.size,x)::σ) (w.alloc o) where
 os:=rfl
 tape:=rfl
 output:=rfl
 size:=by show _≤(w.heap.push o).size;simp
 cell b o' hb _:=UG w o ⟨b,o',none⟩ hb
 obj b hb _:=Below.heap_alloc w o b hb
 drawn:=Nat.le_refl _
 live b o' hb hl:=by
  obtain ⟨y,hy,hl⟩:=hl
  simp only [List.mem_cons,Prod.mk.injEq] at hy
  rcases hy with ⟨rfl,_⟩ | hy
  ·omega
  ·exact ⟨y,hy,hl⟩
theorem Ev.alloc0 {σ:Store}{w:World}(o:Obj):Ev σ w σ (w.alloc o) where
 os:=rfl
 tape:=rfl
 output:=rfl
 size:=by show _≤(w.heap.push o).size;simp
 cell b o' hb _:=UG w o ⟨b,o',none⟩ hb
 obj b hb _:=Below.heap_alloc w o b hb
 live _ _ _ hl:=hl
 drawn:=Nat.le_refl _
theorem Wh.keep {L L':Nat→Nat→Prop}{w w':World}{b:Nat}{x:AObj}(h:Wh L w b x)(hb:w'.heap[b]?=w.heap[b]?)(m:∀ a v,V L w a v→V L' w' a v):Wh L' w' b x:=by
 cases x with
 | cells cs=>obtain ⟨vs,T,h1,h2,h3⟩:=h;exact ⟨vs,T,hb.trans h1,h2,fun i c v hc hv=>m _ _ (h3 i c v hc hv)⟩
 | tail e c=>obtain ⟨vs,T,h1,h2⟩:=h;exact ⟨vs,T,hb.trans h1,h2⟩
 | map es cl=>obtain ⟨ms,h1,h2,h5,h6⟩:=h;exact ⟨ms,hb.trans h1,h2,fun i e q he hm=>⟨(h5 i e q he hm).1,(h5 i e q he hm).2.1,m _ _ (h5 i e q he hm).2.2⟩,h6⟩
 | iter _ _ _ _=>exact hb.trans h
 | raw _=>exact hb.trans h
theorem Zo.keep {σ:Store}{w w':World}(h:Zo σ w)(e:Ev σ w σ w')(hb:∀ b x,(b,x)∈σ→w'.heap[b]?=w.heap[b]?):Zo σ w' :=
 ⟨h.nodup,fun b x hx=>(h.obj b x hx).keep (hb b x hx) (fun _ _ hv=>hv.ev e)⟩
theorem Zo.alloc0 {σ:Store}{w:World}(h:Zo σ w)(o:Obj):Zo σ (w.alloc o) :=
 h.keep (Ev.alloc0 o) (fun b x hx=>Below.heap_alloc w o b (h.obj b x hx).lt)
theorem Xp (w:World)(o:Obj):(w.alloc o).heap[w.heap.size]?=some o:=by
 show (w.heap.push o)[w.heap.size]?=_
 simp
theorem Zo.alloc {σ:Store}{w:World}(h:Zo σ w)(o:Obj)(x:AObj)(hx:Wh (live ((w.heap.size,x)::σ)) (w.alloc o) w.heap.size x):Zo ((w.heap.size,x)::σ) (w.alloc o):=by
 have e:=Ev.alloc h o x
 refine ⟨?_,fun b y hy=>?_⟩
 ·simp only [List.map_cons,List.nodup_cons]
  refine ⟨fun hm=>?_,h.nodup⟩
  simp only [List.mem_map] at hm
  obtain ⟨⟨b,y⟩,hy,hb⟩:=hm
  have:=(h.obj b y hy).lt
  simp at hb
  omega
 ·simp only [List.mem_cons,Prod.mk.injEq] at hy
  rcases hy with ⟨rfl,rfl⟩ | hy
  ·exact hx
  ·exact (h.obj b y hy).keep (Below.heap_alloc w o b (h.obj b y hy).lt) (fun _ _ hv=>hv.ev e)
theorem Jr {σ:Store}{b:Nat}{y:AObj}:∀ {b':Nat} {z:AObj},(b',z)∈σ.set b y→(b'=b∧z=y)∨(b',z)∈σ:=by
 induction σ with
 | nil=>intro b' z h;simp [Store.set] at h
 | cons p r ih =>
   obtain ⟨c,x⟩:=p
   intro b' z h
   simp only [Store.set] at h
   split at h
   ·rename_i hc
    simp only [List.mem_cons,Prod.mk.injEq] at h
    rcases h with ⟨rfl,rfl⟩ | h
    ·exact .inl ⟨hc,rfl⟩
    ·exact .inr (List.mem_cons_of_mem _ h)
   ·simp only [List.mem_cons,Prod.mk.injEq] at h
    rcases h with ⟨rfl,rfl⟩ | h
    ·exact .inr List.mem_cons_self
    ·rcases ih h with h | h
     ·exact .inl h
     ·exact .inr (List.mem_cons_of_mem _ h)
theorem R1 (σ:Store)(b:Nat)(y:AObj):(σ.set b y).map (·.1)=σ.map (·.1):=by
 induction σ with
 | nil=>rfl
 | cons p r ih=>obtain ⟨c,x⟩:=p;simp only [Store.set];split<;>simp_all
theorem Qf {σ:Store}(hn:(σ.map (·.1)).Nodup){b:Nat}{x y:AObj}(hx:(b,x)∈σ)(hy:(b,y)∈σ):x=y:=by
 induction σ with
 | nil=>simp at hx
 | cons p r ih =>
   simp only [List.map_cons,List.nodup_cons] at hn
   simp only [List.mem_cons] at hx hy
   rcases hx with rfl | hx<;>rcases hy with hy | hy
   ·injection hy with _ h;exact h.symm
   ·exact absurd (List.mem_map_of_mem (f:=(·.1)) hy) hn.1
   ·subst hy;exact absurd (List.mem_map_of_mem (f:=(·.1)) hx) hn.1
   ·exact ih hn.2 hx hy
theorem Tl {σ:Store}{b:Nat}{y:AObj}{b':Nat}{z:AObj}(h:(b',z)∈σ)(hne:b'≠b):(b',z)∈σ.set b y:=by
 induction σ with
 | nil=>simp at h
 | cons p r ih =>
   obtain ⟨c,x⟩:=p
   simp only [Store.set]
   simp only [List.mem_cons,Prod.mk.injEq] at h
   split
   ·rename_i hc
    rcases h with ⟨rfl,rfl⟩ | h
    ·exact absurd hc hne
    ·exact List.mem_cons_of_mem _ h
   ·rcases h with ⟨rfl,rfl⟩ | h
    ·exact List.mem_cons_self
    ·exact List.mem_cons_of_mem _ (ih h)
theorem TH {σ:Store}{b:Nat}{x y:AObj}(h:σ.get b=some x):(b,y)∈σ.set b y:=by
 induction σ with
 | nil=>simp [Store.get] at h
 | cons p r ih =>
   obtain ⟨c,z⟩:=p
   simp only [Store.get] at h
   simp only [Store.set]
   split
   ·rename_i hc;subst hc;exact List.mem_cons_self
   ·rename_i hc;rw [if_neg hc] at h;exact List.mem_cons_of_mem _ (ih h)
theorem TG {σ:Store}(hn:(σ.map (·.1)).Nodup){b:Nat}{y z:AObj}{x:AObj}(hb:σ.get b=some x)(h:(b,z)∈σ.set b y):z=y :=
 Qf (by rw [R1];exact hn) h (TH hb)
theorem Qp {σ:Store}(hn:(σ.map (·.1)).Nodup){b:Nat}{x y:AObj}(hb:σ.get b=some x)(hxy:y.liveAt=x.liveAt):live (σ.set b y)=live σ:=by
 funext b' o
 refine propext ⟨fun ⟨z,hz,hl⟩=>?_,fun ⟨z,hz,hl⟩=>?_⟩
 ·by_cases e:b'=b
  ·subst e
   rw [TG hn hb hz] at hl
   exact ⟨x,ZW hb,hxy ▸ hl⟩
  ·rcases Jr hz with ⟨h,_⟩ | h
   ·exact absurd h e
   ·exact ⟨z,h,hl⟩
 ·by_cases e:b'=b
  ·subst e
   rw [Qf hn hz (ZW hb)] at hl
   exact ⟨y,TH hb,hxy ▸ hl⟩
  ·exact ⟨z,Tl hz e,hl⟩
theorem Ev.turn {σ σ':Store}{w w':World}{b:Nat}(hl:∀ b' o,b'<w.heap.size→Vx.live σ' b' o→Vx.live σ b' o)(os:w'.os=w.os)(tape:w'.tape=w.tape)(output:w'.output=w.output)(size:w'.heap.size=w.heap.size)
 (hb:∀ b',b'≠b→w'.heap[b']?=w.heap[b']?) (hc:∀ o,¬ Vx.live σ b o→w'.cell? ⟨b,o,none⟩=w.cell? ⟨b,o,none⟩) (hx:∃ o,Vx.live σ b o) (dr:w.drawn≤w'.drawn):Ev σ w σ' w' where
 drawn:=dr
 os:=os
 tape:=tape
 output:=output
 size:=by omega
 cell b' o hb' hn:=by
  by_cases e:b'=b
  ·subst e;exact hc o hn
  ·exact World.cell?_of_block (w:=w) (hb b' e)
 obj b' hb' hn:=by
  by_cases e:b'=b
  ·subst e;obtain ⟨o,ho⟩:=hx;exact absurd ho (hn o)
  ·exact hb b' e
 live:=hl
theorem Zo.set {σ:Store}{w w':World}{b:Nat}{x y:AObj}(h:Zo σ w)(hb:σ.get b=some x)(e:Ev σ w (σ.set b y) w')
 (hk:∀ b',b'≠b→w'.heap[b']?=w.heap[b']?) (hy:Wh (live (σ.set b y)) w' b y):Zo (σ.set b y) w':=by
 refine ⟨by rw [R1];exact h.nodup,fun b' z hz=>?_⟩
 by_cases e':b'=b
 ·subst e';rw [TG h.nodup hb hz];exact hy
 ·rcases Jr hz with ⟨h',_⟩ | h'
  ·exact absurd h' e'
  ·exact (h.obj b' z h').keep (hk b' e') (fun _ _ hv=>hv.ev e)
def Sub:Store→Store→Prop
 | σ',σ=>(∀ p,p∈σ'→p∈σ)∧((σ.map (·.1)).Nodup→(σ'.map (·.1)).Nodup)
theorem Sub.refl (σ:Store):Sub σ σ:=⟨fun _ h=>h,fun h=>h⟩
theorem Sub.cons (σ:Store)(p:Nat×AObj):Sub σ (p::σ):=⟨fun _ h=>List.mem_cons_of_mem _ h,fun h=>by simp only [List.map_cons,List.nodup_cons] at h;exact h.2⟩
theorem Sub.trans {a b c:Store}(h:Sub a b)(k:Sub b c):Sub a c:=⟨fun p hp=>k.1 p (h.1 p hp),fun hn=>h.2 (k.2 hn)⟩
theorem Sub.skip {a b:Store}(p:Nat×AObj)(h:Sub a b):Sub a (p::b):=h.trans (Sub.cons b p)
theorem Sub.live {σ' σ:Store}(h:Sub σ' σ){b o:Nat}(hl:live σ' b o):live σ b o:=let ⟨x,hx,k⟩:=hl;⟨x,h.1 _ hx,k⟩
theorem Sub.ev {σ' σ:Store}(h:Sub σ' σ)(w:World):Ev σ w σ' w:=⟨rfl,rfl,rfl,Nat.le_refl _,fun _ _ _ _=>rfl,fun _ _ _=>rfl,fun _ _ _ hl=>h.live hl,Nat.le_refl _⟩
theorem Zo.sub {σ' σ:Store}{w:World}(k:Zo σ w)(h:Sub σ' σ):Zo σ' w :=
 ⟨h.2 k.nodup,fun b x hx=>(k.obj b x (h.1 _ hx)).keep rfl (fun _ _ hv=>hv.ev (h.ev w))⟩
def Wk (a a':AV):Prop:=∀ L w v,V L w a v→V L w a' v
theorem Wk.refl (a:AV):Wk a a:=fun _ _ _ h=>h
theorem Wk.any (a:AV):Wk a .any:=fun _ _ v _=>.any v
theorem Wk.trans {a b c:AV}(h:Wk a b)(k:Wk b c):Wk a c:=fun L w v x=>k L w v (h L w v x)
theorem Wk.list (r:Rt)(s:Nat)(es:List (List AV)):Wk (.list r s es) (.list .none s es):=fun L w v h=>by
 cases h with
 | list _ _ _ cap a b o rd hcap hlim hsz ha hr h1 h2=>exact .list .none s es cap a b o rd hcap hlim hsz ha trivial h1 h2
theorem Wk.nil (s s':Nat):Wk (.list .full s []) (.list .full s' []):=fun L w v h=>by
 cases h with
 | list _ _ _ cap a b o rd hcap hlim hsz ha hr h1 h2=>exact .list .full s' [] cap a b o rd hcap hlim (by simp) ha hr (by simp) (by simp)
theorem Wk.agg {cs cs':List AV}(hl:cs.length=cs'.length)(h:∀ (i:Nat) (c c':AV),cs[i]?=some c→cs'[i]?=some c'→Wk c c'):Wk (.agg cs) (.agg cs'):=fun L w v hv=>by
 cases hv with
 | agg _ vs hvl hh =>
   refine .agg cs' vs (by omega) (fun i c v hc hv=>?_)
   have hi:i<cs.length:=by have:=(List.getElem?_eq_some_iff.1 hc).1;omega
   exact h i cs[i] c (List.getElem?_eq_getElem hi) hc L w v (hh i cs[i] v (List.getElem?_eq_getElem hi) hv)
theorem Wk.tup {cs cs':List AV}(hl:cs.length=cs'.length)(h:∀ (i:Nat) (c c':AV),cs[i]?=some c→cs'[i]?=some c'→Wk c c'):Wk (.tup cs) (.tup cs'):=fun L w v hv=>by
 cases hv with
 | tup _ vs hvl hh =>
   refine .tup cs' vs (by omega) (fun i c v hc hv=>?_)
   have hi:i<cs.length:=by have:=(List.getElem?_eq_some_iff.1 hc).1;omega
   exact h i cs[i] c (List.getElem?_eq_getElem hi) hc L w v (hh i cs[i] v (List.getElem?_eq_getElem hi) hv)
def Y0 (v:AV)(σ:Store)(v':AV)(σ':Store):Prop:=∀ w x,Zo σ w→V (live σ) w v x→V (live σ') w v' x∧Zo σ' w∧Ev σ w σ' w
theorem Y0.of {v v':AV}{σ σ':Store}(h:Wk v v')(s:Sub σ' σ):Y0 v σ v' σ':=fun w x ho hv=>⟨V.ev (h _ _ _ hv) (s.ev w),ho.sub s,s.ev w⟩
end Go.Vx
end
section
namespace Go.Vx
open Go.RowKit
def Bh (σ:Store)(w:World)(K:ZO→Store→Prop):Result Value→Prop
 | .ok v w'=>∃ av σ',K (.ret av) σ'∧V (live σ') w' av v∧Zo σ' w'∧Ev σ w σ' w'
 | .halt (.panic v) w'=>∃ σ',K (.pan v) σ'∧Zo σ' w'∧Ev σ w σ' w'
 | _=>False
theorem Bh.val {σ:Store}{w:World}{K:ZO→Store→Prop}{av:AV}{v:Value}(hσ:Zo σ w)(hk:K (.ret av) σ)(hv:V (live σ) w av v):Bh σ w K (.ok v w) :=
 ⟨av,σ,hk,hv,hσ,Ev.refl _ _⟩
theorem V.cells_of {L:Nat→Nat→Prop}{w:World}{a:AV}{v:Value}{cs:List AV}(h:V L w a v)(hc:a.cells=some cs) :
 v.cells.toList.length=cs.length∧∀ (i:Nat) (c:AV) (x:Value),cs[i]?=some c→v.cells.toList[i]?=some x→V L w c x:=by
 have one:∀ (c:AV) (x:Value),x.oneCell'=true→V L w c x→x.cells.toList.length=[c].length∧∀ (i:Nat) (d:AV) (y:Value),[c][i]?=some d→x.cells.toList[i]?=some y→V L w d y:=by
  intro c x hx hv
  have:x.cells=#[x]:=by cases x<;>first | rfl | simp [Value.oneCell'] at hx
  rw [this]
  refine ⟨rfl,fun i d y hd hy=>?_⟩
  cases i with
  | zero=>simp at hd hy;subst hd;subst hy;exact hv
  | succ i=>simp at hd
 cases h with
 | val v =>
   simp only [AV.cells] at hc
   split at hc
   ·rename_i h1;injection hc with hc;subst hc;exact one _ _ h1 (.val v)
   ·cases hc
 | any v=>simp [AV.cells] at hc
 | agg cs' vs hl h=>simp only [AV.cells] at hc;injection hc with hc;subst hc;exact ⟨by simp [Value.cells,hl],fun i c x hc hx=>h i c x hc (by simpa [Value.cells] using hx)⟩
 | tup=>simp [AV.cells] at hc
 | ro cs' b o rd h1 h2=>simp only [AV.cells] at hc;injection hc with hc;subst hc;exact one _ _ rfl (.ro cs' b o rd h1 h2)
 | list r s es cap a b o rd hcap hlim hsz ha hr h1 h2=>simp only [AV.cells] at hc;injection hc with hc;subst hc;exact one _ _ rfl (.list r s es cap a b o rd hcap hlim hsz ha hr h1 h2)
theorem V.one_of {L:Nat→Nat→Prop}{w:World}{a:AV}{v:Value}(h:V L w a v)(h1:a.one=true):v.oneCell'=true:=by
 cases h with
 | val v=>exact h1
 | any v=>simp [AV.one] at h1
 | agg=>simp [AV.one] at h1
 | tup=>simp [AV.one] at h1
 | ro=>rfl
 | list=>rfl
theorem dS {σ:Store}{w:World}(hσ:Zo σ w){cs:List AV}{vs:List Value}(T:TypeId)(hl:vs.length=cs.length)
 (h:∀ (i:Nat) (c:AV) (x:Value),cs[i]?=some c→vs[i]?=some x→V (live σ) w c x) (h1:cs.all AV.one=true) :
 V (live σ) (w.alloc (.cells vs.toArray T)) (.ro cs) (.pointer (some ⟨w.heap.size,0,none⟩)):=by
 refine .ro cs w.heap.size 0 (fun j=>vs.getD j .nilFunc) (fun j c hj=>?_) (fun j c hj=>?_)
 ·have hj':j<vs.length:=by have:=(List.getElem?_eq_some_iff.1 hj).1;omega
  refine ⟨fun hl=>absurd (O3 hσ hl) (by omega),?_,?_⟩
  ·unfold World.cell?;simp only [Xp];simp [hj']
  ·have hv:=h j c vs[j] hj (List.getElem?_eq_getElem hj')
   have:=hv.one_of (List.all_eq_true.1 h1 c (List.mem_of_getElem? hj))
   simpa [hj'] using this
 ·have hj':j<vs.length:=by have:=(List.getElem?_eq_some_iff.1 hj).1;omega
  have hv:=h j c vs[j] hj (List.getElem?_eq_getElem hj')
  have:=hv.ev (Ev.alloc0 (σ:=σ) (w:=w) (.cells vs.toArray T))
  simpa [hj'] using this
theorem dm {L:Nat→Nat→Prop}{w:World}{cs:List AV}{vs:List Value}(T:TypeId)(hl:vs.length=cs.length)
 (h:∀ (i:Nat) (c:AV) (x:Value),cs[i]?=some c→vs[i]?=some x→V L (w.alloc (.cells vs.toArray T)) c x):Wh L (w.alloc (.cells vs.toArray T)) w.heap.size (.cells cs) :=
 ⟨vs,T,Xp w _,hl,h⟩
def Pd (mu:Bool)(cs:List AV)(σ:Store)(K:ZO→Store→Prop):Prop :=
 if mu then ∀ b,Zx σ b→K (.ret (.val (.pointer (some ⟨b,0,none⟩)))) ((b,.cells cs)::σ)
 else cs.all AV.one=true∧K (.ret (.ro cs)) σ
theorem Pc {mu:Bool}{cs:List AV}{σ:Store}{K:ZO→Store→Prop}{w:World}(h:Pd mu cs σ K)(hσ:Zo σ w)(T:TypeId){vs:List Value}(hl:vs.length=cs.length)
 (hv:∀ (i:Nat) (c:AV) (x:Value),cs[i]?=some c→vs[i]?=some x→V (live σ) w c x):Bh σ w K (.ok (.pointer (some ⟨w.heap.size,0,none⟩)) (w.alloc (.cells vs.toArray T))):=by
 unfold Pd at h
 split at h
 ·have e:=Ev.alloc hσ (.cells vs.toArray T) (.cells cs)
  exact ⟨_,_,h w.heap.size (hσ.fresh (Nat.le_refl _)),.val _,hσ.alloc _ _ (dm T hl (fun i c x hc hx=>(hv i c x hc hx).ev e)),e⟩
 ·exact ⟨_,_,h.2,dS hσ T hl hv h.1,hσ.alloc0 _,Ev.alloc0 _⟩
def Wg (P:Program)(T:TypeId)(p:AV)(σ:Store)(K:AV→Prop):Prop :=
 match p with
 | .ro cs=>match Vj P T cs with
   | some v=>K v
   | none=>False
 | .val (.pointer (some ⟨b,o,none⟩))=>match σ.get b with
   | some (.cells cs)=>match Vj P T (cs.drop o) with
     | some v=>K v
     | none=>False
   | _=>False
 | _=>False
theorem Rg {P:Program}{T:TypeId}{p:AV}{σ:Store}{K:AV→Prop}{w:World}{v:Value}(h:Wg P T p σ K)(hσ:Zo σ w)(hp:V (live σ) w p v) :
 ∃ x av,(Instr.loadAt T v).run P w=.ok x w∧V (live σ) w av x∧K av:=by
 unfold Wg at h
 split at h
 ·rename_i cs
  split at h
  ·rename_i av hav
   cases hp with
   | ro _ b o rd h1 h2 =>
     obtain ⟨x,hr,hx⟩:=TJ (P:=P) (T:=T) (w:=w) (b:=b) (o:=o) hav (fun j c hj=>⟨rd j,(h1 j c hj).2.1,h2 j c hj⟩)
     exact ⟨x,av,by simpa [Instr.loadAt,Instr.sureAddr] using hr,hx,h⟩
  ·exact eY
 ·rename_i b o
  cases hp
  split at h
  ·rename_i cs hg
   split at h
   ·rename_i av hav
    obtain ⟨vs,T',hb,hl,hc⟩:=hσ.obj b _ (ZW hg)
    obtain ⟨x,hr,hx⟩:=TJ (P:=P) (T:=T) (L:=live σ) (w:=w) (b:=b) (o:=o) hav (fun j c hj=>by
     rw [List.getElem?_drop] at hj
     have hlt:o+j<vs.length:=by have:=(List.getElem?_eq_some_iff.1 hj).1;omega
     exact ⟨vs[o+j],by simp [World.cell?,hb,hlt],hc (o+j) c vs[o+j] hj (List.getElem?_eq_getElem hlt)⟩)
    exact ⟨x,av,by simpa [Instr.loadAt,Instr.sureAddr] using hr,hx,h⟩
   ·exact eY
  ·exact eY
 ·exact eY
def Yu (cs:List AV)(o:Nat)(vs:List AV):List AV:=cs.take o++(vs++cs.drop (o+vs.length))
def SI (P:Program)(T:TypeId)(p v:AV)(σ:Store)(K:Store→Prop):Prop :=
 match p,v.cells,Zh P T with
 | .val (.pointer (some ⟨b,o,none⟩)),some vs,some n=>match σ.get b with
   | some (.cells cs)=>vs.length=n∧vs.all AV.one=true∧o+n≤cs.length∧K (σ.set b (.cells (Yu cs o vs)))
   | _=>False
 | _,_,_=>False
theorem Td (b o:Nat):∀ (vs:List Value) (w:World) (cur:Array Value) (T:TypeId) (fz:Nat×Nat),w.heap[b]?=some (.cells cur T fz)→o+vs.length≤cur.size →
 (w.setCells b o vs).heap[b]?=some (.cells (cur.toList.take o++(vs++cur.toList.drop (o+vs.length))).toArray T fz)∧(∀ b',b'≠b→(w.setCells b o vs).heap[b']?=w.heap[b']?) ∧
 (w.setCells b o vs).heap.size=w.heap.size∧(w.setCells b o vs).os=w.os∧(w.setCells b o vs).tape=w.tape∧(w.setCells b o vs).output=w.output:=by
 intro vs
 induction vs generalizing o with
 | nil =>
   intro w cur T fz hb hl
   refine ⟨?_,fun _ _=>rfl,rfl,rfl,rfl,rfl⟩
   simp only [World.setCells,List.nil_append,List.length_nil,Nat.add_zero,List.take_append_drop]
   simpa using hb
 | cons v r ih =>
   intro w cur T fz hb hl
   simp only [List.length_cons] at hl
   have hb':(w.setCell ⟨b,o,none⟩ v).heap[b]?=some (.cells (cur.setIfInBounds o v) T fz):=by
    simp [World.setCell,Array.getElem?_modify,hb]
   obtain ⟨h1,h2,h3,h4⟩:=ih (o+1) (w.setCell ⟨b,o,none⟩ v) _ T fz hb' (by simp;omega)
   simp only [World.setCells]
   refine ⟨h1.trans ?_,fun b' hb''=>(h2 b' hb'').trans (Below.heap_setCell _ _ _ _ hb''),h3.trans (by simp [World.setCell]),h4⟩
   congr 3
   have ho:o<cur.toList.length:=by simp;omega
   rw [Array.toList_setIfInBounds,List.take_set,List.drop_set_of_lt (by omega)]
   rw [List.take_succ_eq_append_getElem ho,List.set_append_right _ _ (by rw [List.length_take];omega)]
   simp only [List.length_take,Nat.min_eq_left (Nat.le_of_lt ho),Nat.sub_self,List.set_cons_zero,List.length_cons]
   simp only [List.append_assoc,List.singleton_append,List.cons_append]
   rw [show o+1+r.length=o+(r.length+1) from by omega]
   rfl
theorem RW {cs vs:List AV}{o:Nat}(h:o+vs.length≤cs.length)(i:Nat)(c:AV)(hc:(Yu cs o vs)[i]?=some c) :
 (o≤i∧i<o+vs.length∧vs[i-o]?=some c)∨((i<o∨o+vs.length≤i)∧cs[i]?=some c):=by
 unfold Yu at hc
 by_cases h1:i<o
 ·rw [List.getElem?_append_left (by simp;omega),List.getElem?_take_of_lt h1] at hc
  exact .inr ⟨.inl h1,hc⟩
 ·rw [List.getElem?_append_right (by simp;omega)] at hc
  simp only [List.length_take,Nat.min_eq_left (show o≤cs.length by omega)] at hc
  by_cases h2:i<o+vs.length
  ·rw [List.getElem?_append_left (by omega)] at hc
   exact .inl ⟨by omega,h2,hc⟩
  ·rw [List.getElem?_append_right (by omega),List.getElem?_drop] at hc
   have e:o+vs.length+(i-o-vs.length)=i:=by omega
   rw [e] at hc
   exact .inr ⟨.inr (by omega),hc⟩
theorem SV {cs vs:List Value}{o:Nat}(h:o+vs.length≤cs.length)(i:Nat)(c:Value)(hc:(cs.take o++(vs++cs.drop (o+vs.length)))[i]?=some c) :
 (o≤i∧i<o+vs.length∧vs[i-o]?=some c)∨((i<o∨o+vs.length≤i)∧cs[i]?=some c):=by
 by_cases h1:i<o
 ·rw [List.getElem?_append_left (by simp;omega),List.getElem?_take_of_lt h1] at hc
  exact .inr ⟨.inl h1,hc⟩
 ·rw [List.getElem?_append_right (by simp;omega)] at hc
  simp only [List.length_take,Nat.min_eq_left (show o≤cs.length by omega)] at hc
  by_cases h2:i<o+vs.length
  ·rw [List.getElem?_append_left (by omega)] at hc
   exact .inl ⟨by omega,h2,hc⟩
  ·rw [List.getElem?_append_right (by omega),List.getElem?_drop] at hc
   have e:o+vs.length+(i-o-vs.length)=i:=by omega
   rw [e] at hc
   exact .inr ⟨.inr (by omega),hc⟩
theorem WS (b:Nat):∀ (vs:List Value) (o:Nat) (w:World),(w.setCells b o vs).drawn=w.drawn
 | [],_,_=>rfl
 | v::r,o,w=>by unfold World.setCells;rw [WS b r (o+1)];rfl
theorem SU {P:Program}{σ:Store}{w:World}(hσ:Zo σ w){b o:Nat}{cs vs:List AV}(hg:σ.get b=some (.cells cs)){xs:List Value}(hl:xs.length=vs.length)(ho:o+vs.length≤cs.length)
 (h1:vs.all AV.one=true) (hv:∀ (i:Nat) (c:AV) (x:Value),vs[i]?=some c→xs[i]?=some x→V (live σ) w c x) :
 ∃ w',(storeCells ⟨b,o,none⟩ xs).run P w=.ok () w'∧Zo (σ.set b (.cells (Yu cs o vs))) w'∧Ev σ w (σ.set b (.cells (Yu cs o vs))) w':=by
 obtain ⟨cur,T,hb,hlc,hc⟩:=hσ.obj b _ (ZW hg)
 have one:∀ x∈xs,x.oneCell'=true:=by
  intro x hx
  obtain ⟨i,hi,rfl⟩:=List.mem_iff_getElem.1 hx
  have hi':i<vs.length:=by omega
  exact (hv i vs[i] xs[i] (List.getElem?_eq_getElem hi') (List.getElem?_eq_getElem hi)).one_of (List.all_eq_true.1 h1 _ (List.getElem_mem hi'))
 have hrun:=run_storeCells_cells (P:=P) b o xs 0 w (fun j hj=>by
  have:o+0+j<cur.length:=by omega
  simp [World.cell?,hb];omega) (fun j hj=>by simp [World.frozen?,hb]) one
 obtain ⟨k1,k2,k3,k4,k5,k6⟩:=Td b o xs w cur.toArray T (0,0) hb (by simp;omega)
 simp only [Nat.add_zero] at hrun
 have hlive:=Qp hσ.nodup hg (y:=.cells (Yu cs o vs)) rfl
 have e:Ev σ w (σ.set b (.cells (Yu cs o vs))) (w.setCells b o xs) :=
  Ev.turn (b:=b) (fun b' o' _ hl=>by rw [hlive] at hl;exact hl) k4 k5 k6 k3 k2 (fun o' hn=>absurd ⟨_,ZW hg,trivial⟩ hn) ⟨0,_,ZW hg,trivial⟩ (by rw [WS];exact Nat.le_refl _)
 refine ⟨_,hrun,hσ.set hg e k2 ⟨_,T,k1,?_,fun i c x hci hxi=>?_⟩,e⟩
 ·simp only [List.length_append,List.length_take,List.length_drop,Yu]
  omega
 ·simp only at hxi
  rcases RW ho i c hci with ⟨a1,a2,a3⟩ | ⟨a1,a3⟩<;>rcases SV (cs:=cur) (vs:=xs) (o:=o) (by omega) i x hxi with ⟨b1,b2,b3⟩ | ⟨b1,b3⟩
  ·exact (hv _ c x a3 b3).ev e
  ·omega
  ·omega
  ·exact (hc i c x a3 b3).ev e
theorem Nv {P:Program}{T:TypeId}{p v:AV}{σ:Store}{K:Store→Prop}{w:World}{pv x:Value}(h:SI P T p v σ K)(hσ:Zo σ w)(hp:V (live σ) w p pv)(hv:V (live σ) w v x) :
 ∃ w' σ',(Instr.storeAt T pv x).run P w=.ok () w'∧Zo σ' w'∧Ev σ w σ' w'∧K σ':=by
 unfold SI at h
 split at h
 ·rename_i b o vs n hvc hn
  cases hp
  split at h
  ·rename_i cs hg
   obtain ⟨k1,k2,k3,k4⟩:=h
   obtain ⟨c1,c2⟩:=hv.cells_of hvc
   obtain ⟨w',hr,hs,he⟩:=SU (P:=P) (vs:=vs) hσ hg c1 (by rw [k1];exact k3) k2 c2
   refine ⟨w',_,?_,hs,he,k4⟩
   have hsz:¬ x.cells.size≠n:=by simp at c1;omega
   simp only [Instr.storeAt,Instr.sureAddr,Sem.run_bind,Sem.run_pure,Result.andThen_ok,storeVar,Z2 hn,hsz,if_false]
   simpa using hr
  ·exact eY
 ·exact eY
end Go.Vx
end
