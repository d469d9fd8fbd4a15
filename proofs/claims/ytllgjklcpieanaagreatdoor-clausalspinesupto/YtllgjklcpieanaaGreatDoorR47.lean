/- A part of the proof of clausalSpinesProved. -/
import Derived.Test.YtllgjklcpieanaaGreatDoorR46
import Derived.Test.YtllgjklcpieanaaGreatDoorR36
import Derived.Test.YtllgjklcpieanaaGreatDoorR42
set_option linter.unusedVariables false
set_option linter.unusedSimpArgs false
set_option maxRecDepth 100000
section
namespace Go.Vx
open Go.Proofs Go.RowKit
abbrev chS (c:UInt8):Str:={ data:=#[c] }
abbrev VN:Str:={ data:=#[] }
def sI:Ty:=.mk (chS 105) []
def sAt(s:Str)(n:Int):Fm:=.mk 1 s [.mk 2 n VN []] zTy []
def Mx(f:Fm):Fm:=.mk 10 (chS 120) [] sI [f]
def Sa(k:Int)(a b:Fm):Fm:=.mk k VN [] zTy [a,b]
def sR1:Fm:=Mx (Sa 5 (sAt (chS 112) 0) (Sa 8 (sAt (chS 114) 0) (sAt (chS 113) 0)))
def sR2:Fm:=Mx (Sa 7 (Mx (Sa 7 (sAt (chS 112) 0) (sAt (chS 113) 1))) (sAt (chS 114) 0))
def sP:Pg:=⟨[chS 105],[],[⟨chS 112,[sI],1,[]⟩,⟨chS 113,[sI],1,[]⟩,⟨chS 114,[sI],1,[]⟩],[⟨chS 97,sR1,1⟩,⟨chS 98,sR2,1⟩],[]⟩
def sT4:Tm:=.mk 4 0 VN []
def sG0:FGroup:=⟨[],[⟨[sI],[],[3,1],chS 112,[sT4],[],[]⟩,⟨[sI],[],[3,2,5],chS 113,[sT4],[.mk 1 (chS 114) [sT4] zTy [] 0 0 []],[true]⟩]⟩
def sG1:FGroup:=⟨[],[⟨[sI],[sI],[3,4],chS 114,[sT4],[.mk 10 VN [] sI [.mk 7 VN [] zTy [.mk 1 (chS 113) [sT4] zTy [] 0 0 []] 0 2 [1]] 1 0 []],[false]⟩]⟩
def sG2:FGroup:=⟨[sI],[⟨[],[],[],chS 112,[sT4],[],[]⟩]⟩
def sF0:Flat:=⟨[sG0,sG1,sG2],[0,1]⟩
theorem Cg:Iz sP=(sF0,0):=by kernel_rfl
theorem Fj:NO sF0=0:=by kernel_rfl
theorem Mw:Nz sF0 (chS 113)=[⟨0,1⟩]:=by kernel_rfl
theorem Ai:Vy (.mk 4 7 VN [])=0:=by kernel_rfl
theorem R6(s:Str)(n:Int):Pur nC 33 [vs s,vi n] (.agg (sAt s n).emb):=by
 intro σ
 refine Zh.nodup xy (fun hnd=>?_)
 refine Zb [] [] Tryz.func33 rfl xy ?_;rw[Tryz.ntmps33,Tryz.results33]
 refine uw ?_
 intro b4 hb4
 have f4:Zm σ b4:=hb4
 refine uw ?_
 refine⟨rfl,Zz (Wkl.agg (s:=(sAt s n).emb) ?_) ((Sub.refl σ).skip _)⟩
 exact⟨.refl _,.refl _,(fH (show Wkl [vi 2,vi n,vs VN,.list .full 0 []] [vi 2,vi n,vs VN,.list .none 4 []] from⟨.refl _,.refl _,.refl _,.nilN _ _,trivial⟩)).trans (.list _ _ _),.refl _,.nilN _ _,.nilN _ _,trivial⟩
theorem Ki(f:Fm):Pur nC 31 [.agg f.emb] (.agg (Mx f).emb):=by
 intro σ
 refine Zh.nodup xy (fun hnd=>?_)
 obtain⟨k,s,a,⟨ts,tl⟩,l⟩:=f
 simp only[cM,Mx,sI]
 refine Zb [] [] Tryz.func31 rfl xy ?_;rw[Tryz.ntmps31,Tryz.results31]
 refine uw ?_
 intro b2 hb2
 have f2:Zm σ b2:=hb2
 exact rj
theorem O3(k:Int)(f g:Fm):Pur nC 32 [vi k,.agg f.emb,.agg g.emb] (.agg (Sa k f g).emb):=by
 intro σ
 refine Zh.nodup xy (fun hnd=>?_)
 obtain⟨k1,s,a,⟨ts,tl⟩,l⟩:=f
 obtain⟨k2,s2,a2,⟨ts2,tl2⟩,l2⟩:=g
 simp only[cM,Sa,zTy]
 refine Zb [] [] Tryz.func32 rfl xy ?_;rw[Tryz.ntmps32,Tryz.results32]
 refine uw ?_
 intro b6 hb6
 have f6:Zm σ b6:=hb6
 exact rj
abbrev sPd (c:UInt8):List AV:=[vs (chS c),.list .full 2 [[vs (chS 105),.list .full 0 []]],vi 1,.list .full 0 []]
theorem Kj(c:UInt8):Wkl (sPd c) (Pd.emb ⟨chS c,[sI],1,[]⟩):=⟨.refl _,(fH (show Wkl [vs (chS 105),.list .full 0 []] [vs (chS 105),.list .none 2 []] from⟨.refl _,.nilN _ _,trivial⟩)).trans (.list _ _ _),.refl _,.nilN _ _,trivial⟩
theorem Wk.el3{rt:Rt}{s:Nat}{a b c a' b' c':List AV}(h1:Wkl a a')(h2:Wkl b b')(h3:Wkl c c'):Wk (.list rt s [a,b,c]) (.list rt s [a',b',c']):=.elems rfl fun i x y hx hy=>by
 match i,hx,hy with
 | 0,hx,hy=>simp at hx hy;subst hx;subst hy;exact h1
 | 1,hx,hy=>simp at hx hy;subst hx;subst hy;exact h2
 | 2,hx,hy=>simp at hx hy;subst hx;subst hy;exact h3
 | i+3,hx,hy=>simp at hx
theorem bH:Wk (.agg [.list .full 1 [[vs (chS 105)]],.list .full 0 [],.list .full 4 [sPd 112,sPd 113,sPd 114],.list .full 8 (dx sP.rules),.list .full 0 []]) (.agg sP.emb) :=
 Wkl.agg (s:=sP.emb) ⟨.list _ _ _,.nilN _ _,(Wk.el3 (Kj 112) (Kj 113) (Kj 114)).trans (.list _ _ _),.list _ _ _,.nilN _ _,trivial⟩
theorem Bj:Pur nC 9 [] (vb true):=by
 intro σ
 refine Zh.nodup xy (fun hnd=>?_)
 have hp:=R6 (chS 112) 0
 have hq:=R6 (chS 113) 0
 have hq1:=R6 (chS 113) 1
 have hr:=R6 (chS 114) 0
 have t1:=O3 8 (sAt (chS 114) 0) (sAt (chS 113) 0)
 have t2:=O3 5 (sAt (chS 112) 0) (Sa 8 (sAt (chS 114) 0) (sAt (chS 113) 0))
 have t3:=O3 7 (sAt (chS 112) 0) (sAt (chS 113) 1)
 have t4:=O3 7 (Mx (Sa 7 (sAt (chS 112) 0) (sAt (chS 113) 1))) (sAt (chS 114) 0)
 have a1:=Ki (Sa 5 (sAt (chS 112) 0) (Sa 8 (sAt (chS 114) 0) (sAt (chS 113) 0)))
 have a2:=Ki (Sa 7 (sAt (chS 112) 0) (sAt (chS 113) 1))
 have a3:=Ki (Sa 7 (Mx (Sa 7 (sAt (chS 112) 0) (sAt (chS 113) 1))) (sAt (chS 114) 0))
 simp only[sAt,Sa,Mx,sI,zTy,cM] at hp hq hq1 hr t1 t2 t3 t4 a1 a2 a3
 refine Zb [] [(5,7,0)] Tryz.func9 rfl xy ?_;rw[Tryz.ntmps9,Tryz.results9]
 refine uw ?_
 intro b1 hb1
 refine uw ?_
 refine⟨rfl,rfl,rfl,rfl,rfl,?_⟩
 intro b2 hb2
 refine hp.use ?_
 refine uw ?_
 refine hr.use ?_
 refine uw ?_
 refine hq.use ?_
 refine uw ?_
 refine t1.use ?_
 refine uw ?_
 refine t2.use ?_
 refine uw ?_
 refine a1.use ?_
 refine uw ?_
 intro b3 hb3
 refine uw ?_
 refine hp.use ?_
 refine uw ?_
 refine hq1.use ?_
 refine uw ?_
 refine t3.use ?_
 refine uw ?_
 refine a2.use ?_
 refine uw ?_
 intro b4 hb4
 have n43:=iU hb4.1.symm
 have n42:=iU hb4.2.1.symm
 have n32:=iU hb3.1.symm
 have n24:=iU hb4.2.1
 try simp only[go_sem,seval,n43,n42,n32]
 refine hr.head ?_
 try simp only[go_sem,seval,n43,n42,n32]
 refine t4.head ?_
 try simp only[go_sem,seval,n43,n42,n32]
 refine a3.head ?_
 try simp only[go_sem,seval,n43,n42,n32]
 refine⟨rfl,?_⟩
 have hfl:=AQ sP
 rw[Cg] at hfl
 have hch:=SC sF0
 rw[Fj] at hch
 have hhe:=C0 sF0 (chS 113) (by rw[Mw];decide)
 rw[Mw] at hhe
 have hfo:=K1 sF0 2 sI [] [] [] [] 7 VN VN (chS 112) Fj xj Ai rfl
 have eF:sF0.emb=[.list .none 2 (cX sF0.groups),.list .none 1 (Zu [0,1])]:=rfl
 rw[eF] at hfl hch hhe hfo
 obtain⟨A0,hA0⟩:∃ A,A=dc sG0.alts:=⟨_,rfl⟩
 obtain⟨A1,hA1⟩:∃ A,A=dc sG1.alts:=⟨_,rfl⟩
 obtain⟨A2,hA2⟩:∃ A,A=dc sG2.alts:=⟨_,rfl⟩
 obtain⟨GL,hGL⟩:∃ GL,GL=cX sF0.groups:=⟨_,rfl⟩
 obtain⟨Q1,hQ1⟩:∃ Q,Q=cY [.mk 1 (chS 114) [sT4] zTy [] 0 0 []]:=⟨_,rfl⟩
 obtain⟨K,hK⟩:∃ Q,Q=cY [.mk 7 VN [] zTy [.mk 1 (chS 113) [sT4] zTy [] 0 0 []] 0 2 [1]]:=⟨_,rfl⟩
 obtain⟨Q2,hQ2⟩:∃ Q,Q=cY [.mk 10 VN [] sI [.mk 7 VN [] zTy [.mk 1 (chS 113) [sT4] zTy [] 0 0 []] 0 2 [1]] 1 0 []]:=⟨_,rfl⟩
 obtain⟨L1,hL1⟩:∃ L,L=cI [sI]:=⟨_,rfl⟩
 obtain⟨T4,hT4⟩:∃ T,T=cJ [sT4]:=⟨_,rfl⟩
 have g0:GL[0]?=some [.list .none 2 [],.list .none 7 A0]:=by rw[hGL,hA0];rfl
 have g1:GL[1]?=some [.list .none 2 [],.list .none 7 A1]:=by rw[hGL,hA1];rfl
 have g2:GL[2]?=some [.list .none 2 L1,.list .none 7 A2]:=by rw[hGL,hA2,hL1];rfl
 have lG:((GL.length:Nat):Int)=3:=by rw[hGL];rfl
 have l0:((A0.length:Nat):Int)=2:=by rw[hA0];rfl
 have l1:((A1.length:Nat):Int)=1:=by rw[hA1];rfl
 have l2:((A2.length:Nat):Int)=1:=by rw[hA2];rfl
 have lQ1:((Q1.length:Nat):Int)=1:=by rw[hQ1];rfl
 have lQ2:((Q2.length:Nat):Int)=1:=by rw[hQ2];rfl
 have lK:((K.length:Nat):Int)=1:=by rw[hK];rfl
 have lL:((L1.length:Nat):Int)=1:=by rw[hL1];rfl
 have c1:A0[1]?=some [.list .none 2 L1,.list .none 2 [],.list .none 1 (Zu [3,2,5]),vs (chS 113),.list .none 4 T4,.list .none 9 Q1,.list .none 1 [[vb true]]]:=by rw[hA0,hL1,hT4,hQ1];rfl
 have c2:A1[0]?=some [.list .none 2 L1,.list .none 2 L1,.list .none 1 (Zu [3,4]),vs (chS 114),.list .none 4 T4,.list .none 9 Q2,.list .none 1 [[vb false]]]:=by rw[hA1,hL1,hT4,hQ2];rfl
 have c3:A2[0]?=some [.list .none 2 [],.list .none 2 [],.list .none 1 [],vs (chS 112),.list .none 4 T4,.list .none 9 [],.list .none 1 []]:=by rw[hA2,hT4];rfl
 have k1:Q2[0]?=some [vi 10,vs VN,.list .none 4 [],vs (chS 105),.list .none 2 [],.list .none 9 K,vi 1,vi 0,.list .none 1 []]:=by rw[hQ2,hK];rfl
 have k2:∃ s t l,K[0]?=some [vi 7,vs VN,.list .none 4 [],vs s,.list .none 2 t,.list .none 9 l,vi 0,vi 2,.list .none 1 [[vi 1]]]:=⟨_,_,_,by rw[hK];rfl⟩
 obtain⟨kS,kT,kL,k2⟩:=k2
 have z2:(2:Int).toNat=2:=rfl
 rw[<- hGL] at hfl hch hhe hfo
 clear hA0 hA1 hA2 hGL hQ1 hQ2 hK hL1 hT4 eF
 refine((hfl.use ?_).wk ⟨bH,trivial⟩)
 refine uw ?_
 intro b5 hb5
 try simp only[go_sem,seval,g0,g1,g2,lG,l0,l1,l2,lQ1,lQ2,lK,lL,c1,c2,c3,k1,k2,iT,iV,jf,jg,z2,jq,jr,jt]
 intro b7 hb7
 have n75:=iU hb7.1.symm
 try simp only[go_sem,seval,n75,g0,g1,g2,lG,l0,l1,l2,lQ1,lQ2,lK,lL,c1,c2,c3,k1,k2,iT,iV,jf,jg,z2,jq,jr,jt]
 intro b8 hb8
 have n85:=iU hb8.2.1.symm
 have n87:=iU hb8.1.symm
 try simp only[go_sem,seval,n75,n85,n87,g0,g1,g2,lG,l0,l1,l2,lQ1,lQ2,lK,lL,c1,c2,c3,k1,k2,iT,iV,jf,jg,z2,jq,jr,jt]
 intro b9 hb9
 have n95:=iU hb9.2.2.1.symm
 have n97:=iU hb9.2.1.symm
 have n98:=iU hb9.1.symm
 refine wD ?_
 refine⟨rfl,?_⟩
 have hsi:=V2 [3,2,5] [3,2,5] .none .full 1 1 (.inl rfl) (.inl rfl)
 have hs2:=V2 [0,1] [0,1] .none .full 1 1 (.inl rfl) (.inl rfl)
 rw[jy rfl] at hsi hs2
 refine hsi.use ?_
 refine wD ?_
 intro bA hbA
 have nA9:=iU hbA.1.symm
 have nA8:=iU hbA.2.1.symm
 have nA7:=iU hbA.2.2.1.symm
 have nA5:=iU hbA.2.2.2.1.symm
 refine wj ?_
 refine⟨rfl,?_⟩
 refine((hfo.use ?_).wk ⟨.refl _,.refl _,(fH (show Wkl [vi 4,vi 7,vs VN,.list .full 0 []] [vi 4,vi 7,vs VN,.list .none 4 []] from⟨.refl _,.refl _,.refl _,.nilN _ _,trivial⟩)).trans (.list _ _ _),trivial⟩)
 refine wj ?_
 intro bB hbB
 have nB5:=iU hbB.2.2.2.2.1.symm
 have p0:(dR [⟨0,1⟩])[0]?=some [vi 0,vi 1]:=rfl
 have lp:(((dR [⟨0,1⟩]).length:Nat):Int)=1:=rfl
 have q0:([[vi 4,vi 7,vs VN,.list .none 4 []]]:List (List AV))[0]?=some [vi 4,vi 7,vs VN,.list .none 4 []]:=rfl
 have lq:((([[vi 4,vi 7,vs VN,.list .none 4 []]]:List (List AV)).length:Nat):Int)=1:=rfl
 try simp only[go_sem,seval,nB5,nA9,nA8,nA7,nA5,n75,n85,n87,n95,n97,n98,g0,g1,g2,lG,l0,l1,l2,lQ1,lQ2,lK,lL,c1,c2,c3,k1,k2,iT,iV,jf,jg,z2,jq,jr,jt]
 refine hhe.use ?_
 refine vk ?_
 refine hch.use ?_
 refine vk ?_
 first|refine hs2.use ?_|refine⟨rfl,hs2.use ?_⟩
 refine vk ?_
 exact Zz (.refl _) ((((((((((Sub.refl _).skip _).skip _).skip _).skip _).skip _).skip _).skip _).skip _).skip _ |>.skip _)
open Go.Proofs
theorem GZ(c:Zr)(ts:List Tm)(ps:List Pf):Pur nC 3 [.agg c.emb,.list .none 4 (cJ ts),.list .none 10 (dB ps)] (vb true):=by
 intro σ
 have hsa:=Bj
 have h1:=Cc c ts ps
 have h2:=Ft c ts ps
 obtain⟨⟨L,e⟩,hL⟩:∃ r,r=TN c.path ts ps:=⟨_,rfl⟩
 rw[<- hL] at h1 h2
 have h3:=Ms L
 unfold TuC at h3
 clear hL
 simp only[Zr.emb] at h1 h2 ⊢
 refine Zb [] [] Tryz.func3 rfl xy ?_;rw[Tryz.ntmps3,Tryz.results3]
 refine uw ?_
 refine hsa.use ?_
 refine uw ?_
 refine h1.use ?_
 refine uw ?_
 refine h2.use ?_
 refine uw ?_
 intro b10 hb10
 try simp only[go_sem,seval,eq_self,iT]
 refine h3.use ?_
 refine uw ?_
 exact Zz (.refl _) ((Sub.refl _).skip _)
end Go.Vx
end
