/- A part of the proof of clausalSpinesProved. -/
import Derived.Test.YtllgjklcpieanaaGreatDoorR23
import Derived.Test.YtllgjklcpieanaaGreatDoorR21
import Derived.Test.YtllgjklcpieanaaGreatDoorR19
import Derived.Test.YtllgjklcpieanaaGreatDoorR14
import Derived.Test.YtllgjklcpieanaaGreatDoorR20
set_option linter.unusedVariables false
set_option linter.unusedSimpArgs false
set_option maxRecDepth 100000
section
namespace Go.Vx
open Go.Proofs Go.RowKit
theorem JQ.trans{D:Jd}{vars:List Nt}{e e1:nM Nat}{env:List Plc}{S S1:Store}{b:Bool}{r:ZE}{S':Store}(h:Stp D.jb e e1 S S1)(k:JQ D vars e1 env S1 b r S'):JQ D vars e env S b r S' :=
 ⟨k.1,let ⟨e',h1,h2⟩:=k.2;⟨e',h1,h.trans h2⟩⟩
def TmC(D:Jd)(vars:List Nt)(t:Tm):Prop:=∀ (want:Ty) (e:nM Nat) (env:List Plc) (S:Store),JS D vars e env S->TB D.cT vars env->want.shape.dpN<=1000->env.length+t.shape.dpN<1000000 ->
 Zh nC 282 [.val (.pointer (some ⟨D.jb,0,none⟩)),.agg t.emb,.agg want.emb] S (JQ D vars e env S (tmS D.cT vars env t want))
theorem Ca(D:Jd)(vars:List Nt)(b3 b4 b5:Nat)(k n:Int)(s ws:Str)(x:Tm)(a b:Ty)(hx:TmC D vars x)(e:nM Nat)(env:List Plc)(S:Store)(h:JS D vars e env S)(hT:TB D.cT vars env)(hb:b.shape.dpN<=1000)(hd:env.length+x.shape.dpN<1000000)
 (g3:S.get b3=some (.cells [.val (.pointer (some ⟨D.jb,0,none⟩))])) (g4:S.get b4=some (.cells (Tm.mk k n s [x]).emb)) (g5:S.get b5=some (.cells (Ty.mk ws [a,b]).emb)) :
 Zh nC 297 [.val (.pointer (some ⟨b3,0,none⟩)),.val (.pointer (some ⟨b4,0,none⟩)),.val (.pointer (some ⟨b5,0,none⟩))] S (JQ D vars e env S (tmS D.cT vars env x b)):=by
 have hc:=hx b e env S h hT hb hd
 generalize tmS D.cT vars env x b=q at hc
 have q0:(cJ [x])[0]?=some x.emb:=rfl
 have q1:(cI [a,b])[1]?=some b.emb:=rfl
 have q2:(cI [a,b]).length=2:=by simp[cI]
 have q3:(cJ [x]).length=1:=by simp[cJ]
 obtain⟨kx,nx,sx,lx⟩:=x
 obtain⟨sb,lb⟩:=b
 simp only[cO,cQ] at q0 q1 hc g4 g5
 refine Zb [] [(1,9,0)] Tryz.func297 rfl xy ?_;rw[Tryz.ntmps297,Tryz.results297]
 try simp only[go_sem,seval,g3,g4,g5,q0,q1,q2,q3,jq,jr,jt]
 exact rV
theorem Af(D:Jd)(vars:List Nt)(hv:vars.length<1000000):∀ t:Tm,TmC D vars t:=by
 intro t
 induction t using ed with|h k n s args ih=>?_
 intro want e env S h hT hw hd
 refine Zh.ok xy (fun hok=>?_)
 have hlen:=(((hok (.agg (Tm.mk k n s args).emb) xf).agg (c:=.list .none 4 (cJ args)) xw).len)
 rw[cF] at hlen
 clear hok
 obtain⟨ws,wl⟩:=want
 simp only[cO,cQ]
 refine Zb [3,4,5] [(2,27,0),(10,6,0)] Tryz.func282 rfl xy ?_;rw[Tryz.ntmps282,Tryz.results282]
 refine uw ?_
 intro b3 hb3 b4 hb4 b5 hb5
 have j3:=h.cons hb3 (.cells [.val (.pointer (some ⟨D.jb,0,none⟩))])
 have j4:=j3.cons hb4 (.cells [.val (.int .i64 k),.val (.int .i64 n),.val (.string s),.list .none 4 (cJ args)])
 have j5:=j4.cons hb5 (.cells [.val (.string ws),.list .none 2 (cI wl)])
 have s5:=((Stp.cons (jb:=D.jb) (e:=e) hb3 (.cells [.val (.pointer (some ⟨D.jb,0,none⟩))])).trans (.cons hb4 (.cells [.val (.int .i64 k),.val (.int .i64 n),.val (.string s),.list .none 4 (cJ args)]))).trans (.cons hb5 (.cells [.val (.string ws),.list .none 2 (cI wl)]))
 have n43:=hb4.1
 have n53:=hb5.2.1
 have n54:=hb5.1
 have m43:=iC n43
 have m53:=iC n53
 have m54:=iC n54
 obtain⟨a3,c3⟩:=h.ne hb3
 obtain⟨a4,c4⟩:=j3.ne hb4
 obtain⟨a5,c5⟩:=j4.ne hb5
 have g5:=Ze b5 (AObj.cells [AV.val (Value.string ws),AV.list Rt.none 2 (cI wl)]) ((b4,AObj.cells [AV.val (Value.int IntKind.i64 k),AV.val (Value.int IntKind.i64 n),AV.val (Value.string s),AV.list Rt.none 4 (cJ args)])::(b3,AObj.cells [AV.val (Value.pointer (some { block:=D.jb,off:=0 }))])::S)
 have g4:Store.get ((b5,AObj.cells [AV.val (Value.string ws),AV.list Rt.none 2 (cI wl)])::(b4,AObj.cells [AV.val (Value.int IntKind.i64 k),AV.val (Value.int IntKind.i64 n),AV.val (Value.string s),AV.list Rt.none 4 (cJ args)])::(b3,AObj.cells [AV.val (Value.pointer (some { block:=D.jb,off:=0 }))])::S) b4=some (AObj.cells [AV.val (Value.int IntKind.i64 k),AV.val (Value.int IntKind.i64 n),AV.val (Value.string s),AV.list Rt.none 4 (cJ args)]):=by rw[Zc m54,Ze]
 have g3:Store.get ((b5,AObj.cells [AV.val (Value.string ws),AV.list Rt.none 2 (cI wl)])::(b4,AObj.cells [AV.val (Value.int IntKind.i64 k),AV.val (Value.int IntKind.i64 n),AV.val (Value.string s),AV.list Rt.none 4 (cJ args)])::(b3,AObj.cells [AV.val (Value.pointer (some { block:=D.jb,off:=0 }))])::S) b3=some (AObj.cells [AV.val (Value.pointer (some { block:=D.jb,off:=0 }))]):=by rw[Zc m53,Zc m43,Ze]
 generalize((b5,AObj.cells [AV.val (Value.string ws),AV.list Rt.none 2 (cI wl)])::(b4,AObj.cells [AV.val (Value.int IntKind.i64 k),AV.val (Value.int IntKind.i64 n),AV.val (Value.string s),AV.list Rt.none 4 (cJ args)])::(b3,AObj.cells [AV.val (Value.pointer (some { block:=D.jb,off:=0 }))])::S)=S5 at j5 s5 g3 g4 g5 ⊢
 clear j3 j4 hb3 hb4 hb5
 by_cases h2:wl.length=2
 ·obtain⟨a,b,rfl⟩:∃ a b,wl=[a,b]:=by
   match wl,h2 with
   | [a,b],_=>exact⟨a,b,rfl⟩
  have e2:tmS D.cT vars env (.mk k n s args) (.mk ws [a,b])=(decide (k=5)&&decide (n=0)&&decide (s={ data:=#[] })&&tm1 D.cT vars (env++[⟨a,false⟩]) args b):=by simp only[tmS]
  rw[e2]
  have x1:(((cI [a,b]).length:Int)=2)=True:=iS (by simp[cI])
  by_cases k5:k=5
  ·have y1:=iS k5
   by_cases n0:n=0
   ·have y2:=iS n0
    by_cases s0:s={ data:=#[] }
    ·have y3:=iS s0
     by_cases l1:args.length=1
     ·obtain⟨x,rfl⟩:∃ x,args=[x]:=by
       match args,l1 with
       | [x],_=>exact⟨x,rfl⟩
      have y4:(((cJ [x]).length:Int)=1)=True:=iS (by simp[cJ])
      have q0:(cI [a,b])[0]?=some a.emb:=rfl
      have q2:(cI [a,b]).length=2:=by simp[cI]
      have hdx:env.length+1+x.shape.dpN<1000000:=by have:=Tm.dp_kid (k:=k) (n:=n) (s:=s) (l:=[x]) (a:=x) xf;omega
      have hda:a.shape.dpN<=1000:=by have:=Ty.dp_kid (s:=ws) (l:=[a,b]) (a:=a) xf;omega
      have hdb:b.shape.dpN<=1000:=by have:=Ty.dp_kid (s:=ws) (l:=[a,b]) (a:=b) xf;omega
      have hwi:=Oz D vars e env ⟨a,false⟩ S5 (.func (.func 297) #[] #[.pointer (some ⟨b3,0,none⟩),.pointer (some ⟨b4,0,none⟩),.pointer (some ⟨b5,0,none⟩)]) (tmS D.cT vars (env++[⟨a,false⟩]) x b) j5 xh
       (fun e1 S1 hJ hS=>by rw[Z4];exact(Ca D vars b3 b4 b5 k n s ws x a b (ih x xf) e1 _ S1 hJ (hT.push hda) hdb (by rw[ii];simpa using hdx) (hS.keep _ _ g3 a3 c3) (hS.keep _ _ g4 a4 c4) (hS.keep _ _ g5 a5 c5)))
      have e3:tm1 D.cT vars (env++[⟨a,false⟩]) [x] b=tmS D.cT vars (env++[⟨a,false⟩]) x b:=rfl
      rw[e3]
      generalize tmS D.cT vars (env++[⟨a,false⟩]) x b=q at hwi
      obtain⟨sa,la⟩:=a
      simp only[cQ,eE] at q0 hwi
      try simp only[go_sem,seval,g3,g4,g5,x1,y1,y2,y3,y4,q0,q2,iT,jq,jr,jt]
      refine hwi.mono ?_
      rintro r S' ⟨rfl,e',hJ',hS'⟩
      refine uw ?_
      refine .mk (.refl _) (.refl _) ⟨?_,e',hJ',s5.trans hS'⟩
      simp[k5,n0,s0]
     ·have y4:(((cJ args).length:Int)=1)=False:=iU (by rw[cF];omega)
      have e3:tm1 D.cT vars (env++[⟨a,false⟩]) args b=false:=by
       match args,l1 with
       | [],_=>rfl
       | a::b::r,_=>rfl
      rw[e3]
      try simp only[go_sem,seval,g3,g4,g5,x1,y1,y2,y3,y4,iT,iV]
      exact pT
    ·have y3:=iU s0
     try simp only[go_sem,seval,g3,g4,g5,x1,y1,y2,y3,iT,iV]
     exact pT
   ·have y2:=iU n0
    try simp only[go_sem,seval,g3,g4,g5,x1,y1,y2,iT,iV]
    exact pT
  ·have y1:=iU k5
   try simp only[go_sem,seval,g3,g4,g5,x1,y1,iT,iV]
   exact pT
 ·have x1:(((cI wl).length:Int)=2)=False:=iU (by rw[cG];omega)
  have e2:tmS D.cT vars env (.mk k n s args) (.mk ws wl)=(match YZ D.cT vars env k n s with
   | none=>false
   | some (own,ch,sc)=>decide ((Xt own).1.length=args.length)&&decide ((Xt own).1.length<=8)&&UC (Xt own).2 (.mk ws wl)&&(!ch || UA env sc [] args)&&YM D.cT vars env args (Xt own).1):=by
   match wl,h2 with
   | [],_=>simp only[tmS];cases YZ D.cT vars env k n s<;>rfl
   | [a],_=>simp only[tmS];cases YZ D.cT vars env k n s<;>rfl
   | [a,b],h=>exact absurd rfl h
   | a::b::c::r,_=>simp only[tmS];cases YZ D.cT vars env k n s<;>rfl
  rw[e2]
  have hhd:=AO D vars e env S5 k n s args j5 xh hv
  have hTh:=fun own b m=>hT.head (k:=k) (n:=n) (s:=s) (own:=own) (b:=b) (m:=m)
  generalize YZ D.cT vars env k n s=ho at hhd hTh
  simp only[cO] at hhd
  try simp only[go_sem,seval,g3,g4,g5,x1,iV]
  refine hhd.mono ?_
  rintro r S' ⟨hSS,own,ch,sc,rfl,hR⟩
  rw[hSS]
  clear hSS S'
  have hown:own.shape.dpN<=1000:=by
   cases ho with
   | some x=>exact(hTh own ch sc (by rw[hR])).1
   | none =>
     rcases hR with rfl|⟨z,hz⟩
     ·simp[Ty.shape,dg,Ro.dpN,eJ]
     ·exact hT.c _ _ hz
  obtain⟨hs1,hs2⟩:=O4 own
  have hsp:=JU own xh
  obtain⟨so,lo⟩:=own
  generalize hspE:Xt (.mk so lo)=sp at hsp hs1 hs2 ⊢
  obtain⟨L,⟨st,lt⟩⟩:=sp
  simp only[cQ] at hsp hs1 hs2 ⊢
  refine uw ?_
  intro b7 hb7
  refine uw ?_
  refine hsp.use ?_
  refine uw ?_
  intro b12 hb12
  have j7:=j5.cons hb7 (.cells [.val (.string so),.list .none 2 (cI lo)])
  have j12:=j7.cons hb12 (.cells [.val (.string st),.list .none 2 (cI lt)])
  have s12:=(s5.trans (.cons hb7 (.cells [.val (.string so),.list .none 2 (cI lo)]))).trans (.cons hb12 (.cells [.val (.string st),.list .none 2 (cI lt)]))
  have g12:=Ze b12 (AObj.cells [.val (.string st),.list .none 2 (cI lt)]) ((b7,.cells [.val (.string so),.list .none 2 (cI lo)])::S5)
  have kp:∀ (c:Nat) (y:AObj),Store.get S5 c=some y->Store.get ((b12,AObj.cells [.val (.string st),.list .none 2 (cI lt)])::(b7,.cells [.val (.string so),.list .none 2 (cI lo)])::S5) c=some y:=fun c y hy=>by
   rw[Zg hb12 (by rw[Zg hb7 xE,hy];rfl),Zg hb7 xE];exact hy
  replace g3:=kp _ _ g3
  replace g4:=kp _ _ g4
  replace g5:=kp _ _ g5
  generalize((b12,AObj.cells [AV.val (Value.string st),AV.list Rt.none 2 (cI lt)])::(b7,AObj.cells [AV.val (Value.string so),AV.list Rt.none 2 (cI lo)])::S5)=S12 at j12 s12 g12 g3 g4 g5 ⊢
  clear j5 j7 s5 hb7 hb12 kp
  cases ho with
  | none =>
    try simp only[go_sem,seval,mb,jB]
    exact .mk (.refl _) (.refl _) ⟨rfl,e,j12,s12⟩
  | some x =>
    obtain rfl:=hR
    have hsc:=(hTh _ _ _ rfl).2
    dsimp only
    rw[hspE]
    by_cases c1:L.length=args.length
    ·have y1:((L.length:Int)=(args.length:Int))=True:=iS xh
     by_cases c2:L.length<=8
     ·have y2:((L.length:Int) > 8)=False:=iU xh
      have hst:=Fh (.mk st lt) (.mk ws wl)
      have hpt:=M5 D vars e env S12 args sc j12 xh hsc
      generalize UC (.mk st lt) (.mk ws wl)=q3 at hst
      simp only[cQ] at hst
      try simp only[go_sem,seval,cG,cF,y1,y2,g3,g4,g5,g12,iT,iV]
      refine hst.use ?_
      refine uw ?_
      cases q3 with
      | false =>
        exact ti
      | true =>
        cases ch with
        | false =>
          have hF:(decide (L.length=args.length)&&decide (L.length<=8)&&true&&(!false || UA env sc [] args)&&YM D.cT vars env args L)=YM D.cT vars env args L:=by rw[jy c1,jy c2];simp
          rw[hF]
          try simp only[go_sem,seval,g3,g4]
          exact oj
        | true =>
          have hF:(decide (L.length=args.length)&&decide (L.length<=8)&&true&&(!true || UA env sc [] args)&&YM D.cT vars env args L)=(UA env sc [] args&&YM D.cT vars env args L):=by rw[jy c1,jy c2];simp
          rw[hF]
          generalize UA env sc [] args=q4 at hpt ⊢
          try simp only[go_sem,seval,g3,g4]
          refine hpt.only' ?_
          cases q4 with
          | false =>
            exact ti
          | true =>
            try simp only[go_sem,seval,g3,g4,jz]
            exact oj
     ·have y2:((L.length:Int) > 8)=True:=iS xh
      try simp only[go_sem,seval,cG,cF,y1,y2,g3,g4,g5,g12,iT,iV]
      exact .mk (.refl _) (.refl _) ⟨by simp[c2],e,j12,s12⟩
    ·have y1:((L.length:Int)=(args.length:Int))=False:=iU xh
     try simp only[go_sem,seval,cG,cF,y1,g3,g4,g5,g12,iT,iV]
     exact .mk (.refl _) (.refl _) ⟨by simp[c1],e,j12,s12⟩
end Go.Vx
end
section
namespace Go.Vx
open Go.Proofs Go.RowKit
theorem Il(k:Int)(s:Str):Pur nC 169 [vs s,vi k] (vb (ZC k s)):=by
 intro σ
 refine Zb [] [] Tryz.func169 rfl xy ?_;rw[Tryz.ntmps169,Tryz.results169]
 refine uw ?_
 refine(NP k 0 s).use ?_
 refine uw ?_
 refine Zs ?_
 cases ZC k s<;>simp
theorem Ub(s:Str):Pur nC 108 [vs s] (vb (ZC 1 s)):=by
 intro σ
 refine Zb [] [] Tryz.func108 rfl xy ?_;rw[Tryz.ntmps108,Tryz.results108]
 refine uw ?_
 refine(Il 1 s).use ?_
 exact oG
theorem KU(s:Str):Pur nC 218 [vs s] (vb (ZC 2 s)):=by
 intro σ
 refine Zb [] [] Tryz.func218 rfl xy ?_;rw[Tryz.ntmps218,Tryz.results218]
 refine uw ?_
 refine(Il 2 s).use ?_
 exact oG
theorem AM(s:Str):Pur nC 283 [vs s] (vb (ZC 1 s || ZC 2 s)):=by
 intro σ
 refine Zb [] [] Tryz.func283 rfl xy ?_;rw[Tryz.ntmps283,Tryz.results283]
 exact tV
mutual
def fmS(hasT:Str->Bool)(cT:Str->nM Ty)(pP:Str->nM Pd)(vars:List Nt)(left:Bool)(env:List Plc):Fm->Bool
 | .mk k s a (.mk ts tl) l =>
   if(ZQ k).2=false\/¬ (l.length:Int)=(ZQ k).1 then false
   else if k=1 then decide (ts={ data:=#[] })&&decide (tl.length=0)&&(match pP s with
    | none=>false
    | some d=>decide (d.types.length=a.length)&&YM cT vars env a d.types)
   else if k=10\/k=11 then decide (a.length=0)&&(ZC 1 s || ZC 2 s)&&YN hasT (.mk ts tl)&&(!(decide (k=10) == left) || VA (.mk ts tl))&&fm1 hasT cT pP vars left (env++[⟨.mk ts tl,decide (k=10) == left⟩]) l
   else decide (ts={ data:=#[] })&&decide (tl.length=0)&&decide (a.length=0)&&decide (s={ data:=#[] })&&VM hasT cT pP vars left env (decide (k=7\/k=8)) l
def fm1(hasT:Str->Bool)(cT:Str->nM Ty)(pP:Str->nM Pd)(vars:List Nt)(left:Bool)(env:List Plc):List Fm->Bool
 | [g]=>fmS hasT cT pP vars left env g
 | _=>false
def VM(hasT:Str->Bool)(cT:Str->nM Ty)(pP:Str->nM Pd)(vars:List Nt)(left:Bool)(env:List Plc)(turn:Bool):List Fm->Bool
 | []=>true
 | g::r=>fmS hasT cT pP vars (left != turn) env g&&VM hasT cT pP vars left env false r
end
theorem Fm.dp_kid{k:Int}{s:Str}{a:List Tm}{t:Ty}{l:List Fm}{x:Fm}(h:x∈l):x.shape.dpN<(Fm.mk k s a t l).shape.dpN:=by
 simp only[Fm.shape,Ro.dpN]
 have:x.shape∈cK a++cR l:=mU _ (by rw[dI];exact iB h)
 have:=eH this
 omega
theorem fY{k:Int}{s:Str}{a:List Tm}{t:Ty}{l:List Fm}{x:Tm}(h:x∈a):x.shape.dpN<(Fm.mk k s a t l).shape.dpN:=by
 simp only[Fm.shape,Ro.dpN]
 have:x.shape∈cK a++cR l:=my _ (by rw[cS];exact iB h)
 have:=eH this
 omega
def FT(f:Fm):Prop:=∀ t∈XH f,t.shape.dpN<=1000
theorem FT.kid{k:Int}{s:Str}{a:List Tm}{t:Ty}{l:List Fm}{x:Fm}(h:FT (.mk k s a t l))(hx:x∈l):FT x:=by
 intro u hu
 refine h u ?_
 have h2:u∈Yw l:=by
  induction l with
  | nil=>cases hx
  | cons b r ih =>
    simp only[Yw,mi]
    rcases List.mem_cons.1 hx with rfl|hx
    ·exact .inl hu
    ·exact .inr (ih (fun v hv=>h v (by
      simp only[XH] at hv ⊢
      split at hv
      ·rename_i q;rw[gZ q];simp only[Yw,lD,mi] at hv ⊢;rcases hv with hv|hv;exact .inl hv;exact .inr (.inr hv)
      ·rename_i q;rw[ig q];simp only[Yw,mi];exact .inr hv)) hx)
 simp only[XH]
 split
 ·exact kR _ h2
 ·exact h2
theorem FT.ty{k:Int}{s:Str}{a:List Tm}{t:Ty}{l:List Fm}(h:FT (.mk k s a t l))(hk:k=10\/k=11):t.shape.dpN<=1000:=h t (by simp only[XH,gZ hk];exact ir)
def FmC(D:Jd)(vars:List Nt)(f:Fm):Prop:=∀ (left:Bool) (e:nM Nat) (env:List Plc) (S:Store),JS D vars e env S->TB D.cT vars env->FT f->env.length+f.shape.dpN<1000000 ->
 Zh nC 250 [.val (.pointer (some ⟨D.jb,0,none⟩)),.agg f.emb,vb left] S (JQ D vars e env S (fmS D.hasT D.cT D.pP vars left env f))
theorem C9(D:Jd)(vars:List Nt)(b3 b4 b5:Nat)(k:Int)(s:Str)(ta:List Tm)(ty:Ty)(x:Fm)(left:Bool)(hx:FmC D vars x)(e:nM Nat)(env:List Plc)(S:Store)(h:JS D vars e env S)(hT:TB D.cT vars env)(hF:FT x)(hd:env.length+x.shape.dpN<1000000)
 (g3:S.get b3=some (.cells [.val (.pointer (some ⟨D.jb,0,none⟩))])) (g4:S.get b4=some (.cells (Fm.mk k s ta ty [x]).emb)) (g5:S.get b5=some (.cells [vb left])) :
 Zh nC 286 [.val (.pointer (some ⟨b3,0,none⟩)),.val (.pointer (some ⟨b4,0,none⟩)),.val (.pointer (some ⟨b5,0,none⟩))] S (JQ D vars e env S (fmS D.hasT D.cT D.pP vars left env x)):=by
 have hc:=hx left e env S h hT hF hd
 generalize fmS D.hasT D.cT D.pP vars left env x=q at hc
 have q0:(cN [x])[0]?=some x.emb:=rfl
 have q3:(cN [x]).length=1:=by simp[cN]
 obtain⟨kx,sx,ax,⟨tx,ux⟩,lx⟩:=x
 obtain⟨ts,tl⟩:=ty
 simp only[cM] at q0 hc g4
 refine Zb [] [(1,6,0)] Tryz.func286 rfl xy ?_;rw[Tryz.ntmps286,Tryz.results286]
 try simp only[go_sem,seval,g3,g4,g5,q0,q3,jq,jr,jt]
 exact rV
end Go.Vx
end
section
namespace Go.Vx
open Go.Proofs Go.RowKit
theorem Jq(σ:Store)(l:List Fm)(rt:Rt)(sz:Nat)(hs:sz=6\/l=[])(f:nG)(q:Fm->Bool)(hf:∀ d∈l,ZH nC (.val f) [.agg d.emb] σ (ZP (vb (q d)) σ)) :
 Zh nC 149 [.list rt sz (cN l),.val f] σ (ZP (vb (l.any q)) σ):=by
 refine Ru ?_
 have:=R2 f rt sz (cN l) (fun _=>σ) (fun i=>TY q l[i]?) (hs.imp id (fun h=>by rw[h];rfl)) (fun i e he=>by obtain⟨t,_,rfl⟩:=fF he;exact AJ t)
  (fun i e he _=>by
   obtain⟨t,ht,rfl⟩:=fF he
   simp only[ht,TY]
   exact hf t (iG ht))
 rw[cU] at this
 exact this
mutual
def dpB:Ro->Nat->Bool
 | .mk _,0=>true
 | .mk l,m+1=>K4 l m
def K4:List Ro->Nat->Bool
 | [],_=>false
 | a::r,m=>dpB a m || K4 r m
end
theorem Q0(l:List Ro)(m:Nat):K4 l m=l.any (fun x=>dpB x m):=by
 induction l with
 | nil=>rfl
 | cons a r ih=>simp only[K4,mX,ih]
theorem Ll(b:Nat)(m:Nat)(hm:m<=1000)(t:Tm)(q:Bool)(hc:Pur nC 148 [.agg t.emb,vi m] (vb q))(σ:Store)(g:σ.get b=some (.cells [vi ((m+1:Nat):Int)])) :
 Zh nC 216 [.agg t.emb,.val (.pointer (some ⟨b,0,none⟩))] σ (ZP (vb q) σ):=by
 refine wd fun w1=>?_
 obtain⟨k,n,s,l⟩:=t
 simp only[cO] at hc ⊢
 refine Zb [] [] Tryz.func216 rfl xy ?_;rw[Tryz.ntmps216,Tryz.results216]
 exact ug
theorem K6:∀ (t:Tm) (m:Nat),m<=1000->Pur nC 148 [.agg t.emb,vi m] (vb (dpB t.shape m)):=by
 intro t
 induction t using ed with|h k n s l ih=>?_
 intro m hm σ
 simp only[cO]
 refine Zb [3] [] Tryz.func148 rfl xy ?_;rw[Tryz.ntmps148,Tryz.results148]
 refine uw ?_
 intro b3 hb3
 match m,hm with
 | 0,_ =>
   have x1:(((0:Nat):Int)=0)=True:=iS rfl
   have e:dpB (Tm.mk k n s l).shape 0=true:=by simp only[Tm.shape,dpB]
   rw[e]
   try simp only[go_sem,seval,x1,iT]
   exact oW
 | m+1,hm =>
   have x1:(((m+1:Nat):Int)=0)=False:=iU xh
   have e:dpB (Tm.mk k n s l).shape (m+1)=l.any (fun x=>dpB x.shape m):=by simp only[Tm.shape,dpB,Q0,cS,List.any_map];rfl
   rw[e]
   have ha:=TX ((b3,.cells [vi ((m+1:Nat):Int)])::σ) l .none 4 (.inl rfl) (.func (.func 216) #[] #[.pointer (some ⟨b3,0,none⟩)]) (fun x=>dpB x.shape m) (fun d hd=>by rw[Z4];exact Ll b3 m xh d _ (ih d hd m xh) _ (Ze _ _ _))
   try simp only[go_sem,seval,x1,iV]
   refine ha.only' ?_
   exact tT
theorem Bi(b:Nat)(m:Nat)(hm:m<=1000)(t:Tm)(σ:Store)(g:σ.get b=some (.cells [vi ((m+1:Nat):Int)])) :
 Zh nC 147 [.agg t.emb,.val (.pointer (some ⟨b,0,none⟩))] σ (ZP (vb (dpB t.shape m)) σ):=by
 refine wd fun w1=>?_
 have hc:=K6 t m hm
 obtain⟨k,n,s,l⟩:=t
 simp only[cO] at hc ⊢
 refine Zb [] [] Tryz.func147 rfl xy ?_;rw[Tryz.ntmps147,Tryz.results147]
 exact ug
theorem Bh(b:Nat)(m:Nat)(hm:m<=1000)(t:Fm)(q:Bool)(hc:Pur nC 89 [.agg t.emb,vi m] (vb q))(σ:Store)(g:σ.get b=some (.cells [vi ((m+1:Nat):Int)])) :
 Zh nC 150 [.agg t.emb,.val (.pointer (some ⟨b,0,none⟩))] σ (ZP (vb q) σ):=by
 refine wd fun w1=>?_
 obtain⟨k,s,a,⟨ts,tl⟩,l⟩:=t
 simp only[cM] at hc ⊢
 refine Zb [] [] Tryz.func150 rfl xy ?_;rw[Tryz.ntmps150,Tryz.results150]
 exact ug
theorem A7:∀ (t:Fm) (m:Nat),m<=1000->Pur nC 89 [.agg t.emb,vi m] (vb (dpB t.shape m)):=by
 intro t
 induction t using eg with|h k s a ty l ih=>?_
 obtain⟨ts,tl⟩:=ty
 intro m hm σ
 simp only[cM]
 refine Zb [3] [] Tryz.func89 rfl xy ?_;rw[Tryz.ntmps89,Tryz.results89]
 refine uw ?_
 intro b3 hb3
 match m,hm with
 | 0,_ =>
   have x1:(((0:Nat):Int)=0)=True:=iS rfl
   have e:dpB (Fm.mk k s a (.mk ts tl) l).shape 0=true:=by simp only[Fm.shape,dpB]
   rw[e]
   try simp only[go_sem,seval,x1,iT]
   exact oW
 | m+1,hm =>
   have x1:(((m+1:Nat):Int)=0)=False:=iU xh
   have e:dpB (Fm.mk k s a (.mk ts tl) l).shape (m+1)=(a.any (fun x=>dpB x.shape m) || l.any (fun x=>dpB x.shape m)):=by
    simp only[Fm.shape,dpB,Q0,jW,cS,dI,List.any_map];rfl
   rw[e]
   have h1:=TX ((b3,.cells [vi ((m+1:Nat):Int)])::σ) a .none 4 (.inl rfl) (.func (.func 147) #[] #[.pointer (some ⟨b3,0,none⟩)]) (fun x=>dpB x.shape m) (fun d hd=>by rw[Z4];exact Bi b3 m xh d _ (Ze _ _ _))
   have h2:=Jq ((b3,.cells [vi ((m+1:Nat):Int)])::σ) l .none 6 (.inl rfl) (.func (.func 150) #[] #[.pointer (some ⟨b3,0,none⟩)]) (fun x=>dpB x.shape m) (fun d hd=>by rw[Z4];exact Bh b3 m xh d _ (ih d hd m xh) _ (Ze _ _ _))
   generalize a.any (fun x=>dpB x.shape m)=q1 at h1 ⊢
   generalize l.any (fun x=>dpB x.shape m)=q2 at h2 ⊢
   try simp only[go_sem,seval,x1,iV]
   refine h1.only' ?_
   cases q1 with
   | true =>
     exact tT
   | false =>
     refine uw ?_
     refine h2.only' ?_
     refine uw ?_
     rw[ja]
     exact oW
def quB(k:Int):Bool:=decide (k=10) || decide (k=11)
theorem OA(f:Fm):Pur nC 99 [.agg f.emb] (vb (match f with|.mk k _ _ _ _=>quB k)):=by
 intro σ
 obtain⟨k,s,a,⟨ts,tl⟩,l⟩:=f
 simp only[cM]
 refine Zb [] [] Tryz.func99 rfl xy ?_;rw[Tryz.ntmps99,Tryz.results99]
 refine uw ?_
 by_cases h:k=10
 ·have x:=iS h
  try simp only[go_sem,seval,x,iT]
  exact Zs (by simp[quB,h])
 ·have x:=iU h
  try simp only[go_sem,seval,x,iV]
  exact Zs (by simp[quB,h])
theorem AZ(s:Str):Pur nC 153 [vs s] (vb (ZC 1 s || ZC 2 s)):=by
 intro σ
 refine Zb [] [] Tryz.func153 rfl xy ?_;rw[Tryz.ntmps153,Tryz.results153]
 exact tV
theorem H5(t:Ty):Pur nC 154 [.agg t.emb] (vb (Z1 t)):=by
 intro σ
 have hc:=ao t
 have hd:Z1 t=(decide (Uh [] t=0) || decide (Uh [] t=40)):=rfl
 rw[hd]
 generalize Uh [] t=c at hc
 obtain⟨s,l⟩:=t
 simp only[cQ] at hc ⊢
 refine Zb [] [] Tryz.func154 rfl xy ?_;rw[Tryz.ntmps154,Tryz.results154]
 refine uw ?_
 refine hc.use ?_
 by_cases h:c=0
 ·have x:=iS h
  try simp only[go_sem,seval,x,iT]
  exact Zs xf
 ·have x:=iU h
  try simp only[go_sem,seval,x,iV]
  exact Zs xf
def W3(k:Int):Int:=if k=1\/k=2\/k=3 then 0 else if k=4\/k=5\/k=6\/k=7\/k=8 then 2 else if k=9\/k=10\/k=11\/k=12 then 1 else -1
theorem Ce(k:Int):Pur nC 151 [vi k] (vi (W3 k)):=by
 intro σ
 refine Zb [] [] Tryz.func151 rfl xy ?_;rw[Tryz.ntmps151,Tryz.results151]
 refine uw ?_
 intro b hb
 by_cases h1:k<0
 ·have x1:=iS h1
  have e:W3 k=-1:=by unfold W3;rw[ig xh,ig xh,ig xh]
  rw[e]
  try simp only[go_sem,seval,x1,mJ,false_implies,true_implies,jt]
  exact oW
 ·have x1:=iU h1
  by_cases h2:13<=k
  ·have x2:=iS h2
   have e:W3 k=-1:=by unfold W3;rw[ig xh,ig xh,ig xh]
   rw[e]
   try simp only[go_sem,seval,x1,x2,mJ,not_false_eq_true,false_implies,true_implies,and_true]
   exact oW
  ·have x2:=iU h2
   have x3:(0<=k)=True:=iS xh
   have x4:(k<13)=True:=iS xh
   have hdr:(List.drop (k.toNat * 1) [AV.val (Value.int IntKind.i64 (-1)),vi 0,vi 0,vi 0,vi 2,vi 2,vi 2,vi 2,vi 2,vi 1,vi 1,vi 1,vi 1]).head?=some (vi (W3 k)):=by
    have:k=0\/k=1\/k=2\/k=3\/k=4\/k=5\/k=6\/k=7\/k=8\/k=9\/k=10\/k=11\/k=12:=by omega
    rcases this with rfl|rfl|rfl|rfl|rfl|rfl|rfl|rfl|rfl|rfl|rfl|rfl|rfl<;>rfl
   try simp only[go_sem,seval,x1,x2,x3,x4,hdr,mJ,not_false_eq_true,false_implies,true_implies,and_true,jt]
   exact oW
end Go.Vx
end
section
namespace Go.Vx
open Go.Proofs Go.RowKit
mutual
def Xy:Fm->Bool
 | .mk k s a (.mk ts tl) l=>decide (W3 k=(l.length:Int))&&(if k=1 then ZC 1 s&&decide (a.length<=8)&&!(a.any fun t=>!decide (Vy t=0)) else decide (a.length=0)&&(if quB k then(ZC 1 s || ZC 2 s)&&Z1 (.mk ts tl) else decide (s={ data:=#[] }))) &&
   (quB k || (decide (ts={ data:=#[] })&&decide (tl.length=0)))&&JW l
def JW:List Fm->Bool
 | []=>true
 | g::r=>Xy g&&JW r
end
theorem Od(l:List Fm):JW l=!(l.any fun g=>!Xy g):=by
 induction l with
 | nil=>rfl
 | cons a r ih=>simp only[JW,mX,ih];cases Xy a<;>simp
theorem IW(t:Tm):Pur nC 152 [.agg t.emb] (vb (!decide (Vy t=0))):=by
 intro σ
 have hc:=My t
 generalize Vy t=c at hc
 obtain⟨k,n,s,l⟩:=t
 simp only[cO] at hc ⊢
 refine Zb [] [] Tryz.func152 rfl xy ?_;rw[Tryz.ntmps152,Tryz.results152]
 refine uw ?_
 refine hc.use ?_
 exact pz
theorem IV(f:Fm)(q:Bool)(hc:Pur nC 90 [.agg f.emb] (vb q)):Pur nC 155 [.agg f.emb] (vb (!q)):=by
 intro σ
 obtain⟨k,s,a,⟨ts,tl⟩,l⟩:=f
 simp only[cM] at hc ⊢
 refine Zb [] [] Tryz.func155 rfl xy ?_;rw[Tryz.ntmps155,Tryz.results155]
 refine uw ?_
 refine hc.use ?_
 exact pz
theorem Fc:∀ f:Fm,Pur nC 90 [.agg f.emb] (vb (Xy f)):=by
 intro f
 induction f using eg with|h k s a ty l ih=>?_
 obtain⟨ts,tl⟩:=ty
 intro σ
 have hq:=OA (.mk k s a (.mk ts tl) l)
 have hs:=Ce k
 have hall:=Jq σ l .none 6 (.inl rfl) (.func (.func 155) #[] #[]) (fun g=>!Xy g) (fun d hd=>by rw[Z4];exact IV d _ (ih d hd) σ)
 have hargs:=TX σ a .none 4 (.inl rfl) (.func (.func 152) #[] #[]) (fun t=>!decide (Vy t=0)) (fun d hd=>by rw[Z4];exact IW d σ)
 have hsp:Xy (.mk k s a (.mk ts tl) l)=(decide (W3 k=(l.length:Int))&&(if k=1 then ZC 1 s&&decide (a.length<=8)&&!(a.any fun t=>!decide (Vy t=0)) else decide (a.length=0)&&(if quB k then(ZC 1 s || ZC 2 s)&&Z1 (.mk ts tl) else decide (s={ data:=#[] }))) &&
  (quB k || (decide (ts={ data:=#[] })&&decide (tl.length=0)))&&!(l.any fun g=>!Xy g)):=by simp only[Xy,Od]
 rw[hsp]
 generalize(l.any fun g=>!Xy g)=ql at hall ⊢
 generalize(a.any fun t=>!decide (Vy t=0))=qa at hargs ⊢
 dsimp only at hq
 have hn:=Ub s
 have hy:=AZ s
 have hf:=H5 (.mk ts tl)
 generalize ZC 1 s=qn at hn hy ⊢
 generalize ZC 2 s=qn2 at hy ⊢
 generalize Z1 (.mk ts tl)=qf at hf ⊢
 have hk1:k=1->quB k=false:=fun h=>by rw[h];rfl
 generalize quB k=qq at hq hk1 ⊢
 generalize W3 k=sk at hs ⊢
 simp only[cM,cQ] at hq hf ⊢
 refine Zb [] [(1,6,0)] Tryz.func90 rfl xy ?_;rw[Tryz.ntmps90,Tryz.results90]
 refine uw ?_
 refine hs.head ?_
 by_cases hlen:sk=(l.length:Int)
 ·have x1:=iS hlen
  rw[jy hlen,jz]
  try simp only[go_sem,seval,cU,x1,iT]
  by_cases k1:k=1
  ·have y1:=iS k1
   have hqq:=hk1 k1
   subst hqq
   clear hk1
   rw[gZ k1,ja]
   try simp only[go_sem,seval,y1,iT]
   refine hn.use ?_
   cases qn with
   | false=>try simp only[go_sem,seval];exact Zs xf
   | true =>
   refine uw ?_
   by_cases a8:a.length<=8
   ·have y2:((a.length:Int) > 8)=False:=iU xh
    rw[jy a8]
    try simp only[go_sem,seval,cF,y2,iV]
    refine hargs.only' ?_
    cases qa with
    | true=>try simp only[go_sem,seval];exact Zs xf
    | false =>
    refine uw ?_
    try simp only[jz,jB]
    exact tS
   ·have y2:((a.length:Int) > 8)=True:=iS xh
    rw[jY a8]
    try simp only[go_sem,seval,cF,y2,iT]
    exact Zs xf
  ·have y1:=iU k1
   rw[ig k1]
   clear hk1
   by_cases a0:a.length=0
   ·have y2:((a.length:Int) > 0)=False:=iU xh
    rw[jy a0,jz]
    try simp only[go_sem,seval,cF,y1,y2,iV]
    refine hq.use ?_
    cases qq with
    | false =>
      rw[ig xj,ja]
      by_cases s0:s={ data:=#[] }
      ·have y3:=iS s0
       rw[jy s0,jz]
       try simp only[go_sem,seval,y3,iT]
       refine hq.use ?_
       refine uw ?_
       exact tS
      ·have y3:=iU s0
       rw[jY s0]
       try simp only[go_sem,seval,y3,iV]
       exact Zs xf
    | true =>
      rw[gZ rfl,ky]
      refine uw ?_
      refine hq.use ?_
      refine uw ?_
      refine hy.use ?_
      generalize(qn || qn2)=qz
      cases qz with
      | false=>try simp only[go_sem,seval];exact Zs xf
      | true =>
      refine uw ?_
      refine hf.use ?_
      cases qf with
      | false=>try simp only[go_sem,seval];exact Zs xf
      | true =>
      refine uw ?_
      refine hq.use ?_
      refine uw ?_
      refine hall.only' ?_
      exact oP
   ·have y2:((a.length:Int) > 0)=True:=iS xh
    rw[jY a0]
    try simp only[go_sem,seval,cF,y1,y2,iT,iV]
    exact Zs xf
 ·have x1:=iU hlen
  rw[jY hlen]
  try simp only[go_sem,seval,cU,x1,iV]
  exact Zs xf
def Qs(f:Fm):Int:=if 4000<prt f.shape 4000 then 2 else if dpB f.shape 100 then 5 else if Xy f then 0 else 6
theorem Km(f:Fm):Pur nC 55 [.agg f.emb] (vi (Qs f)):=by
 intro σ
 have h1:=Ag f
 have h2:=A7 f 100 xh
 have h3:=Fc f
 have hr:Qs f=if 4000<prt f.shape 4000 then 2 else if dpB f.shape 100 then 5 else if Xy f then 0 else 6:=rfl
 rw[hr]
 generalize prt f.shape 4000=x1 at h1 ⊢
 generalize dpB f.shape 100=x2 at h2 ⊢
 generalize Xy f=x3 at h3 ⊢
 obtain⟨k,s,a,⟨ts,tl⟩,l⟩:=f
 simp only[cM] at h1 h2 h3 ⊢
 refine Zb [] [] Tryz.func55 rfl xy ?_;rw[Tryz.ntmps55,Tryz.results55]
 refine uw ?_
 refine h1.use ?_
 by_cases hx:4000<x1
 ·have y:(x1 > 4000)=True:=iS hx
  rw[gZ hx]
  refine vI ?_
  exact Zl
 ·have y:(x1 > 4000)=False:=iU hx
  rw[ig hx]
  refine wz ?_
  refine h2.use ?_
  cases x2 with
  | true=>try simp only[go_sem,seval];exact Us rfl
  | false =>
  refine uw ?_
  refine h3.use ?_
  exact sB
open Go.Proofs Go.RowKit
def UN(ds:List Pd)(k:Int)(s:Str):Int:=if k=1 then((ds.find? fun d=>decide (d.name=s)).map Pd.kind).getD 0 else 0
def kdF(ds:List Pd):Fm->Int
 | .mk k s _ _ _=>UN ds k s
abbrev jdA (ds:List Pd):AV:=.agg [.list .none 4 (df ds)]
theorem EL{ds:List Pd}{s:Str}{i:Nat}(hi:i<ds.length)(hb:∀ d,ds[i]?=some d->d.name=s)(hn:∀ j d,j<i->ds[j]?=some d->¬ d.name=s):ds.find? (fun d=>decide (d.name=s))=ds[i]?:=by
 induction ds generalizing i with
 | nil=>simp at hi
 | cons a r ih =>
   cases i with
   | zero =>
     have:=hb a rfl
     simp[this]
   | succ i =>
     have h0:=hn 0 a xh rfl
     rw[List.find?_cons_of_neg (by simpa using h0)]
     simp only[mg]
     exact ih xM (fun d hd=>hb d (by simpa using hd)) (fun j d hj hd=>hn (j+1) d xh (by simpa using hd))
theorem WC(ds:List Pd)(f:Fm):Pur nC 93 [jdA ds,.agg f.emb] (vi (kdF ds f)):=by
 intro σ
 refine Zh.ok xy (fun hok=>?_)
 have hlen:=(((hok (jdA ds) xf).agg (c:=.list .none 4 (df ds)) xf).len)
 rw[dC] at hlen
 clear hok
 obtain⟨k,s,a,⟨ts,tl⟩,l⟩:=f
 simp only[cM,jdA]
 refine Zb [3] [] Tryz.func93 rfl xy ?_;rw[Tryz.ntmps93,Tryz.results93]
 refine uw ?_
 intro b3 hb3
 refine uw ?_
 have hix:=Sr (.func (.func 158) #[] #[.pointer (some ⟨b3,0,none⟩)]) .none 4 (df ds) (fun _=>(b3,AObj.cells [AV.val (Value.int IntKind.i64 k),AV.val (Value.string s),AV.list Rt.none 4 (cJ a),AV.val (Value.string ts),AV.list Rt.none 2 (cI tl),AV.list Rt.none 6 (cN l)])::σ)
  (fun i=>match ds[i]? with|some d=>decide (d.name=s)|none=>false) (.inl rfl) (fun i e he=>by obtain⟨t,_,rfl⟩:=eL he;exact FY t) (fun i e he _=>by
   obtain⟨d,hd,rfl⟩:=eL he
   rw[Z4]
   simp only[hd]
   obtain⟨dn,dt,dk,dm⟩:=d
   simp only[Pd.emb]
   refine Zb [] [] Tryz.func158 rfl xy ?_;rw[Tryz.ntmps158,Tryz.results158]
   refine uw ?_
   exact Zl)
 refine hix.mono ?_
 rw[dC]
 rintro r S' (⟨i,hi,hb,hn,rfl,rfl⟩|⟨hn,rfl,rfl⟩)
 ·obtain⟨d,hd⟩:∃ d,ds[i]?=some d:=⟨ds[i],iO hi⟩
  have hf:ds.find? (fun d=>decide (d.name=s))=some d:=by
   rw[<- hd]
   refine EL hi (fun d' hd'=>?_) (fun j d' hj hd'=>?_)
   ·dsimp only at hb;rw[hd'] at hb;simpa using hb
   ·have:=hn j hj;dsimp only at this;rw[hd'] at this;simpa using this
  have hk:kdF ds (.mk k s a (.mk ts tl) l)=if k=1 then d.kind else 0:=by simp only[kdF,UN,hf];rfl
  rw[hk]
  have gd:(df ds)[i]?=some d.emb:=by rw[df,jp,hd];rfl
  have x0:((i:Int)<0)=False:=iU xh
  have x1:(0<=(i:Int))=True:=iS xh
  have x2:((i:Int)<(ds.length:Int))=True:=iS xh
  obtain⟨dn,dt,dk,dm⟩:=d
  simp only[Pd.emb] at gd
  by_cases k1:k=1
  ·have y:=iS k1
   rw[gZ k1]
   try simp only[go_sem,seval,y,x0,x1,x2,gd,dC,iT,iV,iF,jq,jr,jt]
   exact oW
  ·have y:=iU k1
   rw[ig k1]
   try simp only[go_sem,seval,y,iT,iV]
   exact oW
 ·have hf:ds.find? (fun d=>decide (d.name=s))=none:=by
   rw[mN]
   intro d hd
   obtain⟨j,hj,rfl⟩:=iN hd
   have:=hn j hj
   dsimp only at this
   rw[iO hj] at this
   simpa using this
  have hk:kdF ds (.mk k s a (.mk ts tl) l)=0:=by simp only[kdF,UN,hf];split<;>rfl
  rw[hk]
  by_cases k1:k=1
  ·have y:=iS k1
   try simp only[go_sem,seval,y,iT,iV]
   exact oW
  ·have y:=iU k1
   try simp only[go_sem,seval,y,iT,iV]
   exact oW
end Go.Vx
end
